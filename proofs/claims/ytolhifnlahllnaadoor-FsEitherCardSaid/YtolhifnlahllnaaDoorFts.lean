/- Files: the law FsEither: walk (printed by gen_fts.py). -/
import Derived.Test.YtolhifnlahllnaaDoorFzf
namespace Hy.Fs
open Go
theorem crs_err {f : FSy} {m : Nat} (h : (crs f m).2 ≠ 0) : (crs f m).1 = fs0 := by
  by_cases h1 : fsck f = 0
  · rw [crs_ok h1] at h; exact absurd rfl h
  · rw [crs_bad h1]
/-- the last entry of a name -/
def lst (l : List Ent) (s : ByteArray) : Int := l.foldl (fun a x => if x.1 = s then x.2 else a) (-1)
theorem lst_snoc {l : List Ent} {s : ByteArray} {k : Nat} (h : k < l.length) : lst (l.take (k + 1)) s = if l[k].1 = s then l[k].2 else lst (l.take k) s := by
  rw [List.take_succ_eq_append_getElem h]; unfold lst; rw [List.foldl_append]; rfl
theorem lst_nof {n : Int} {l : List Ent} (hl : Good n l) (s : ByteArray) : lst l s = nof l s := by
  by_cases h : s.data.toList ∈ nms l
  · obtain ⟨hk, he, hn⟩ := nof_at hl.2.1 h
    rw [hn]
    have key : ∀ m, Dct.plc (nms l) s.data.toList < m → m ≤ l.length → lst (l.take m) s = l[Dct.plc (nms l) s.data.toList].2 := by
      intro m
      induction m with
      | zero => intro h; omega
      | succ m ih =>
        intro h1 h2
        rw [lst_snoc (by omega)]
        by_cases hm : m = Dct.plc (nms l) s.data.toList
        · subst hm; rw [if_pos he]
        · rw [if_neg, ih (by omega) (by omega)]
          intro e
          have h3 := List.pairwise_iff_getElem.1 hl.2.1 (Dct.plc (nms l) s.data.toList) m (by rw [nms_len]; exact hk) (by rw [nms_len]; omega) (by omega)
          rw [nms_at, nms_at] at h3
          rw [show l[Dct.plc (nms l) s.data.toList].1.data.toList = s.data.toList by rw [he], show l[m].1.data.toList = s.data.toList by rw [e]] at h3
          exact Dct.lt_irr _ h3
    have := key l.length hk (Nat.le_refl _)
    rwa [List.take_length] at this
  · rw [nof_no h]
    have key : ∀ m, m ≤ l.length → lst (l.take m) s = -1 := by
      intro m
      induction m with
      | zero => intro _; rfl
      | succ m ih =>
        intro h2
        rw [lst_snoc (by omega), if_neg, ih (by omega)]
        intro e
        exact h (mem_nms.2 ⟨l[m], List.getElem_mem _, by rw [← e]⟩)
    have := key l.length (Nat.le_refl _)
    rwa [List.take_length] at this
/-- what is read behind a crash is told by a list -/
def told (f : FSy) (L : List Ent) (s r : ByteArray) (g : Nat) : Bool :=
  if nof L s < 0 then decide (g = 5) else decide (g = 0) && match f.1[(nof L s).toNat]? with | some x => (r.toList == x.1.toList) || (r.toList == x.2.toList) | none => false
theorem told_neg {f : FSy} {L : List Ent} {s r : ByteArray} {g : Nat} (h : nof L s < 0) : told f L s r g = ((g : Int) == 5) := by
  unfold told; rw [if_pos h]
  by_cases hg : g = 5
  · subst hg; rfl
  · rw [decide_eq_false hg]; symm; rw [beq_eq_false_iff_ne]; omega
theorem told_pos {f : FSy} {L : List Ent} {s r : ByteArray} {g j : Nat} (h : nof L s = (j : Int)) (hj : j < f.1.length) : told f L s r g = (((g : Int) == 0) && ((r.toList == f.1[j].1.toList) || (r.toList == f.1[j].2.toList))) := by
  unfold told
  rw [if_neg (by omega), h, Int.toNat_natCast, List.getElem?_eq_getElem hj]
  congr 1
  by_cases hg : g = 0
  · subst hg; rfl
  · rw [decide_eq_false hg]; symm; rw [beq_eq_false_iff_ne]; omega
def okv (a b : Bool) (i : Nat) : Bool := if i = 0 then false else if i = 1 then a else (a || b)
theorem either_law {f : FSy} (h : fsck f = 0) (m : Nat) (s : ByteArray) : (told f f.2.1 s (rdf (crs f m).1 s).1 (rdf (crs f m).1 s).2 || told f f.2.2 s (rdf (crs f m).1 s).1 (rdf (crs f m).1 s).2) = true := by
  have hf := ok_iff.1 h
  have key : told f (crd f m) s (rdf (crs f m).1 s).1 (rdf (crs f m).1 s).2 = true := by
    have hg := crd_good hf m
    rw [lv_rdf (crs_fine hf m), crs_lv hf]
    unfold told lv
    simp only
    by_cases hn : nof (crd f m) s < 0
    · rw [if_pos hn, if_pos hn]; rfl
    · rw [if_neg hn, if_neg hn]
      have hr := nof_rng (dir_iff.2 hg) s
      have hk : (nof (crd f m) s).toNat < f.1.length := by omega
      rw [crn_at m f.1 0 _ hk, List.getElem?_eq_getElem hk]
      cases lnd m (0 + (nof (crd f m) s).toNat) <;> simp
  unfold crd at key
  split at key
  · rw [key]; rfl
  · rw [key, Bool.or_true]
end Hy.Fs
namespace Go.Proofs.YtolhifnlahllnaaDoor
open Go.RowKit Hy
set_option maxHeartbeats 6400000 in
set_option maxRecDepth 100000 in
theorem fsEither_err (f : Fs.FSy) (s : ByteArray) (mk : Nat) (v : Value) (w : World) (hv : FsV w v f) (hb : Fs.FsB f) (hmk : mk < 18446744073709551616) (h0 : (Fs.crs f mk).2 ≠ 0) :
    Calls Tryd.prog 7 #[v, .string s, .int .u64 mk] w fun e w' => e = .returned (.bool true) ∧ Ext w w' := by
  have HB := hid hb
  have HAB := hid (@Fs.crs_b f mk)
  have HC1 := hid (fun wx v (hw : FsV wx v f) => crash_V f mk v wx hw hb hmk)
  have HV := hid hv
  obtain ⟨NA, nn, nc, DA, dn, dc, SA, sn, sc, rfl⟩ := hv.shape
  have hE1 : (Fs.crs f mk).1 = Fs.fs0 := Fs.crs_err h0
  obtain ⟨E, hE⟩ : ∃ E, E = (Fs.crs f mk).2 := ⟨_, rfl⟩
  obtain ⟨FA, hFA⟩ : ∃ F, F = Fs.fs0 := ⟨_, rfl⟩
  have HDE := hid (show Fs.crs f mk = (FA, E) from Prod.ext (by rw [hE1, hFA]) hE.symm)
  rw [← hE] at h0
  have HFA := hid hFA
  have e2 : ((E : Int) != 0) = true := by simp; omega
  clear hv hb hmk h0 hE hE1 hFA
  go_enter Tryd.func7, Tryd.ntmps7
  go_upto_region 1 with fail
  refine wp_gen (fun w' => Ext w w' ∧ Blk w' w.heap.size 25 #[.slice NA nn nc, .slice DA dn dc, .slice SA sn sc]) ⟨(ext_refl _).new _, Blk.new _ _ _⟩ ?_
  rintro wz ⟨B0, B1⟩
  have X : Hid (Ext w wz) := hid B0
  have F1 := hid B1
  replace HV := hid (HV.out.keep B0)
  clear B0 B1
  have p0 := F1.out.cell 0
  have p1 := F1.out.cell 1
  have p2 := F1.out.cell 2
  go_wp2_with fail
  refine Calls.mono (HC1.out _ _ HV.out) ?_
  rintro e w1 ⟨v', he, hv, hx⟩
  rw [HDE.out] at he hv
  obtain rfl := he
  obtain ⟨A1a, n1a, c1a, A2a, n2a, c2a, A3a, n3a, c3a, rfl⟩ := hv.shape
  have hn := Ext.new (ext_refl w1) (.cells #[.slice A1a n1a c1a, .slice A2a n2a c2a, .slice A3a n3a c3a] 25)
  have Ba := hid (Blk.new w1 25 #[.slice A1a n1a c1a, .slice A2a n2a c2a, .slice A3a n3a c3a])
  have Va := hid (hv.keep hn)
  have hy := Ext.then hx hn
  replace X := hid (X.out.then hy)
  replace HV := hid (HV.out.keep hy)
  replace F1 := hid (F1.out.keep hy)
  clear hx hv hn hy
  clear p0 p1 p2
  go_wp2_with fail
  refine Calls.mono (fsBegun_any _) ?_
  rintro e w3 ⟨rfl, hx⟩
  replace X := hid (X.out.then hx)
  replace HV := hid (HV.out.keep hx)
  replace F1 := hid (F1.out.keep hx)
  replace Va := hid (Va.out.keep hx)
  replace Ba := hid (Ba.out.keep hx)
  clear hx
  have a0 := Ba.out.cell 0
  have a1 := Ba.out.cell 1
  have a2 := Ba.out.cell 2
  go_wp2_with fail
  refine Calls.mono (sameFS_same FA _ _ _ Va.out (by rw [HFA.out]; exact fs0_V _) (by rw [HFA.out]; exact Fs.fs0_b)) ?_
  rintro e w4 ⟨rfl, hx⟩
  replace X := hid (X.out.then hx)
  clear hx
  go_wp2
  go_returns
  exact ⟨rfl, X.out⟩
set_option maxHeartbeats 6400000 in
set_option maxRecDepth 100000 in
theorem fsEither_ok (f : Fs.FSy) (s : ByteArray) (mk : Nat) (v : Value) (w : World) (hv : FsV w v f) (hb : Fs.FsB f) (hmk : mk < 18446744073709551616) (h0 : Fs.fsck f = 0) :
    Calls Tryd.prog 7 #[v, .string s, .int .u64 mk] w fun e w' => e = .returned (.bool true) ∧ Ext w w' := by
  have HB := hid hb
  have HAB := hid (@Fs.crs_b f mk)
  have HC1 := hid (fun wx v (hw : FsV wx v f) => crash_V f mk v wx hw hb hmk)
  have HV := hid hv
  obtain ⟨NA, nn, nc, DA, dn, dc, SA, sn, sc, rfl⟩ := hv.shape
  have hok := Fs.ok_iff.1 h0
  have hz : (Fs.crs f mk).2 = 0 := by rw [Fs.crs_ok h0]
  have hel := Fs.either_law h0 mk s
  obtain ⟨FA, hFA⟩ : ∃ F, F = (Fs.crs f mk).1 := ⟨_, rfl⟩
  have HDE := hid (show Fs.crs f mk = (FA, 0) from Prod.ext hFA.symm hz)
  rw [← hFA] at hel HAB
  obtain ⟨r, hr⟩ : ∃ r, r = (Fs.rdf FA s).1 := ⟨_, rfl⟩
  obtain ⟨G, hG⟩ : ∃ G, G = (Fs.rdf FA s).2 := ⟨_, rfl⟩
  have HRD := hid (fun wx v (hw : FsV wx v FA) => read_any FA s v wx hw HAB.out)
  rw [← hr, ← hG] at hel HRD
  have HEL := hid hel
  have HOK := hid hok
  have hdl := Fs.good_len hok.dir
  have hsl := Fs.good_len hok.syn
  have h24 := hok.few
  have HV0 := HV.out
  obtain ⟨NA', nc', DA', dc', SA', sc', esh, r1, r2, r3, _, _, _⟩ := HV0
  simp only [Value.agg.injEq, Array.mk.injEq, List.cons.injEq, Value.slice.injEq, and_true] at esh
  obtain ⟨⟨rfl, en, rfl⟩, ⟨rfl, ed, rfl⟩, ⟨rfl, es, rfl⟩⟩ := esh
  have HEN := hid en; have HED := hid ed; have HES := hid es
  have HR1 := hid r1; have HR2 := hid r2; have HR3 := hid r3
  have hnI : (nn : Int) ≤ 24 := by omega
  have hdI : (dn : Int) ≤ 24 := by omega
  have hsI : (sn : Int) ≤ 24 := by omega
  clear hv hb hmk h0 hok hz hel hFA hr hG hdl hsl h24 en ed es r1 r2 r3
  go_enter Tryd.func7, Tryd.ntmps7
  go_upto_region 1 with fail
  refine wp_gen (fun w' => Ext w w' ∧ Blk w' w.heap.size 25 #[.slice NA nn nc, .slice DA dn dc, .slice SA sn sc]) ⟨(ext_refl _).new _, Blk.new _ _ _⟩ ?_
  rintro wz ⟨B0, B1⟩
  have X : Hid (Ext w wz) := hid B0
  have F1 := hid B1
  replace HV := hid (HV.out.keep B0)
  clear B0 B1
  have p0 := F1.out.cell 0
  have p1 := F1.out.cell 1
  have p2 := F1.out.cell 2
  go_wp2_with fail
  refine Calls.mono (HC1.out _ _ HV.out) ?_
  rintro e w1 ⟨v', he, hv, hx⟩
  rw [HDE.out] at he hv
  obtain rfl := he
  obtain ⟨A1a, n1a, c1a, A2a, n2a, c2a, A3a, n3a, c3a, rfl⟩ := hv.shape
  have hn := Ext.new (ext_refl w1) (.cells #[.slice A1a n1a c1a, .slice A2a n2a c2a, .slice A3a n3a c3a] 25)
  have Ba := hid (Blk.new w1 25 #[.slice A1a n1a c1a, .slice A2a n2a c2a, .slice A3a n3a c3a])
  have Va := hid (hv.keep hn)
  have hy := Ext.then hx hn
  replace X := hid (X.out.then hy)
  replace HV := hid (HV.out.keep hy)
  replace F1 := hid (F1.out.keep hy)
  clear hx hv hn hy
  clear p0 p1 p2
  go_wp2_with fail
  refine Calls.mono (fsBegun_any _) ?_
  rintro e w3 ⟨rfl, hx⟩
  replace X := hid (X.out.then hx)
  replace HV := hid (HV.out.keep hx)
  replace F1 := hid (F1.out.keep hx)
  replace Va := hid (Va.out.keep hx)
  replace Ba := hid (Ba.out.keep hx)
  clear hx
  have a0 := Ba.out.cell 0
  have a1 := Ba.out.cell 1
  have a2 := Ba.out.cell 2
  go_wp2_with fail
  refine Calls.mono (HRD.out _ _ Va.out) ?_
  rintro e w4 ⟨rfl, hx⟩
  replace X := hid (X.out.then hx)
  replace HV := hid (HV.out.keep hx)
  replace F1 := hid (F1.out.keep hx)
  clear hx a0 a1 a2 Va Ba
  have p0 := F1.out.cell 0
  have p1 := F1.out.cell 1
  have p2 := F1.out.cell 2
  have BL := hid (Blk.new w4 23 #[.slice DA dn dc, .slice SA sn sc])
  have XN := hid (Ext.new (ext_refl w4) (.cells #[.slice DA dn dc, .slice SA sn sc] 23))
  obtain ⟨T0, hT0⟩ : ∃ T, T = Fs.told f f.2.1 s r G := ⟨_, rfl⟩
  obtain ⟨T1, hT1⟩ : ∃ T, T = Fs.told f f.2.2 s r G := ⟨_, rfl⟩
  have HT0 := hid hT0; have HT1 := hid hT1
  rw [← hT0, ← hT1] at HEL
  clear hT0 hT1
  go_wp2
  replace X := hid (X.out.then XN.out)
  replace HV := hid (HV.out.keep XN.out)
  replace F1 := hid (F1.out.keep XN.out)
  clear p0 p1 p2
  obtain ⟨g, hg⟩ : ∃ g, g = w4.heap.size := ⟨_, rfl⟩
  rw [← hg] at BL ⊢
  clear hg XN
  generalize (w4.alloc (.cells #[.slice DA dn dc, .slice SA sn sc] 23)) = wl at *
  have p0 := F1.out.cell 0
  have b0 := BL.out.cell 0
  have b1 := BL.out.cell 1
  go_loop [11, 41] (fun o c => ∃ i : Nat, i ≤ 2 ∧ c = .int .i64 i ∧ o = .bool (Fs.okv T0 T1 i)) (fun _ c => 2 - (intOf c).toNat)
  case atStart => exact ⟨0, by omega, rfl, rfl⟩
  case round =>
    obtain ⟨i, hi, rfl, rfl⟩ := hrel
    have h3 : i = 0 ∨ i = 1 ∨ i = 2 := by omega
    rcases h3 with rfl | rfl | rfl
    · rw [show Fs.okv T0 T1 0 = false from rfl]
      go_wp2
      go_loop [14, 15] (fun a c => ∃ k : Nat, k ≤ dn ∧ c = .int .i64 k ∧ a = .int .i64 (Fs.lst (f.2.1.take k) s)) (fun _ c => dn - (intOf c).toNat)
      case atStart => exact ⟨0, Nat.zero_le _, rfl, rfl⟩
      case round =>
        obtain ⟨k, hk, rfl, rfl⟩ := hrel
        by_cases hlt : k < dn
        · have hka : k < f.2.1.length := by rw [← HED.out]; exact hlt
          obtain ⟨be, oe, ee, le, ce⟩ := HR2.out.ents k hka
          have d0 := ext_cell X.out (ce k hka).1
          have d1 := ext_cell X.out (ce k hka).2
          have HSN := hid (Fs.lst_snoc (s := s) hka)
          have HEE := hid ee
          have hkI : (k : Int) < (dn : Int) := by omega
          clear ce le ee
          by_cases he : f.2.1[k].1 = s
          · rw [if_pos he] at HSN
            rw [he] at d0
            generalize f.2.1[k].2 = y at *
            clear he hka
            have ee := HEE.out
            subst ee
            go_wp2
            go_round
            case rel => exact ⟨k + 1, by omega, by go_num, by rw [HSN.out]⟩
            case measure => simp [intOf]; omega
          · rw [if_neg he] at HSN
            have hne := Fs.tl_ne he
            generalize f.2.1[k].1 = x at *
            generalize f.2.1[k].2 = y at *
            clear he hka
            have ee := HEE.out
            subst ee
            go_wp2
            go_round
            case rel => exact ⟨k + 1, by omega, by go_num, by rw [HSN.out]⟩
            case measure => simp [intOf]; omega
        · obtain rfl : dn = k := by omega
          have HL : Fs.lst (f.2.1.take dn) s = Fs.nof f.2.1 s := by rw [HED.out, List.take_length]; exact Fs.lst_nof HOK.out.dir s
          rw [HL]
          clear HL
          by_cases hn : Fs.nof f.2.1 s < 0
          · have HTN := hid (HT0.out.trans (Fs.told_neg hn))
            have hn1 : Fs.nof f.2.1 s = -1 := by have := Fs.nof_rng (Fs.dir_iff.2 HOK.out.dir) s; omega
            rw [hn1]
            clear hn hn1 hlt
            cases hq : ((G : Int) == 5)
            all_goals (
              have HTV := hid (HTN.out.trans hq)
              go_wp2
              go_round
              case rel => exact ⟨1, by omega, by go_num, by rw [show Fs.okv T0 T1 1 = T0 from rfl, HTV.out]; try rfl⟩
              case measure => simp [intOf])
          · obtain ⟨jn, hj⟩ : ∃ j : Nat, Fs.nof f.2.1 s = (j : Int) := ⟨(Fs.nof f.2.1 s).toNat, by omega⟩
            have hjl : jn < f.1.length := by have := Fs.nof_rng (Fs.dir_iff.2 HOK.out.dir) s; omega
            have HTN := hid (HT0.out.trans (Fs.told_pos hj hjl))
            rw [hj]
            obtain ⟨be, oe, ee, le, ce⟩ := HR1.out.nodes jn hjl
            have d0 := ext_cell X.out (ce jn hjl).1
            have d1 := ext_cell X.out (ce jn hjl).2
            have hjI : (jn : Int) < (nn : Int) := by have := HEN.out; omega
            have HEE := hid ee
            clear ce le ee hj hn hlt
            generalize f.1[jn] = x at *
            obtain ⟨xa, xb⟩ := x
            simp only at d0 d1 HTN
            have ee := HEE.out
            subst ee
            cases hq : ((G : Int) == 0) <;> cases hu : (r.toList == xa.toList) <;> cases hv : (r.toList == xb.toList)
            all_goals (
              have HTW := HTN.out
              simp only [hq, hu, hv, Bool.or_true, Bool.or_false, Bool.and_true, Bool.and_false, Bool.or_self] at HTW
              have HTV := hid HTW
              clear HTW
              go_wp2
              go_round
              case rel => exact ⟨1, by omega, by go_num, by rw [show Fs.okv T0 T1 1 = T0 from rfl, HTV.out]; try rfl⟩
              case measure => simp [intOf])
    · rw [show Fs.okv T0 T1 1 = T0 from rfl]
      cases hT0v : T0
      · have HT0V := hid hT0v
        clear hT0v
        go_wp2
        go_loop [14, 15] (fun a c => ∃ k : Nat, k ≤ sn ∧ c = .int .i64 k ∧ a = .int .i64 (Fs.lst (f.2.2.take k) s)) (fun _ c => sn - (intOf c).toNat)
        case atStart => exact ⟨0, Nat.zero_le _, rfl, rfl⟩
        case round =>
          obtain ⟨k, hk, rfl, rfl⟩ := hrel
          by_cases hlt : k < sn
          · have hka : k < f.2.2.length := by rw [← HES.out]; exact hlt
            obtain ⟨be, oe, ee, le, ce⟩ := HR3.out.ents k hka
            have d0 := ext_cell X.out (ce k hka).1
            have d1 := ext_cell X.out (ce k hka).2
            have HSN := hid (Fs.lst_snoc (s := s) hka)
            have HEE := hid ee
            have hkI : (k : Int) < (sn : Int) := by omega
            clear ce le ee
            by_cases he : f.2.2[k].1 = s
            · rw [if_pos he] at HSN
              rw [he] at d0
              generalize f.2.2[k].2 = y at *
              clear he hka
              have ee := HEE.out
              subst ee
              go_wp2
              go_round
              case rel => exact ⟨k + 1, by omega, by go_num, by rw [HSN.out]⟩
              case measure => simp [intOf]; omega
            · rw [if_neg he] at HSN
              have hne := Fs.tl_ne he
              generalize f.2.2[k].1 = x at *
              generalize f.2.2[k].2 = y at *
              clear he hka
              have ee := HEE.out
              subst ee
              go_wp2
              go_round
              case rel => exact ⟨k + 1, by omega, by go_num, by rw [HSN.out]⟩
              case measure => simp [intOf]; omega
          · obtain rfl : sn = k := by omega
            have HL : Fs.lst (f.2.2.take sn) s = Fs.nof f.2.2 s := by rw [HES.out, List.take_length]; exact Fs.lst_nof HOK.out.syn s
            rw [HL]
            clear HL
            by_cases hn : Fs.nof f.2.2 s < 0
            · have HTN := hid (HT1.out.trans (Fs.told_neg hn))
              have hn1 : Fs.nof f.2.2 s = -1 := by have := Fs.nof_rng (Fs.dir_iff.2 HOK.out.syn) s; omega
              rw [hn1]
              clear hn hn1 hlt
              cases hq : ((G : Int) == 5)
              all_goals (
                have HTV := hid (HTN.out.trans hq)
                go_wp2
                go_round
                case rel => exact ⟨2, by omega, by go_num, by rw [HTV.out]; try rfl⟩
                case measure => simp [intOf])
            · obtain ⟨jn, hj⟩ : ∃ j : Nat, Fs.nof f.2.2 s = (j : Int) := ⟨(Fs.nof f.2.2 s).toNat, by omega⟩
              have hjl : jn < f.1.length := by have := Fs.nof_rng (Fs.dir_iff.2 HOK.out.syn) s; omega
              have HTN := hid (HT1.out.trans (Fs.told_pos hj hjl))
              rw [hj]
              obtain ⟨be, oe, ee, le, ce⟩ := HR1.out.nodes jn hjl
              have d0 := ext_cell X.out (ce jn hjl).1
              have d1 := ext_cell X.out (ce jn hjl).2
              have hjI : (jn : Int) < (nn : Int) := by have := HEN.out; omega
              have HEE := hid ee
              clear ce le ee hj hn hlt
              generalize f.1[jn] = x at *
              obtain ⟨xa, xb⟩ := x
              simp only at d0 d1 HTN
              have ee := HEE.out
              subst ee
              cases hq : ((G : Int) == 0) <;> cases hu : (r.toList == xa.toList) <;> cases hv : (r.toList == xb.toList)
              all_goals (
                have HTW := HTN.out
                simp only [hq, hu, hv, Bool.or_true, Bool.or_false, Bool.and_true, Bool.and_false, Bool.or_self] at HTW
                have HTV := hid HTW
                clear HTW
                go_wp2
                go_round
                case rel => exact ⟨2, by omega, by go_num, by rw [HTV.out]; try rfl⟩
                case measure => simp [intOf])
      · have HT0V := hid hT0v
        clear hT0v
        go_wp2
        go_loop [14, 15] (fun a c => ∃ k : Nat, k ≤ sn ∧ c = .int .i64 k ∧ a = .int .i64 (Fs.lst (f.2.2.take k) s)) (fun _ c => sn - (intOf c).toNat)
        case atStart => exact ⟨0, Nat.zero_le _, rfl, rfl⟩
        case round =>
          obtain ⟨k, hk, rfl, rfl⟩ := hrel
          by_cases hlt : k < sn
          · have hka : k < f.2.2.length := by rw [← HES.out]; exact hlt
            obtain ⟨be, oe, ee, le, ce⟩ := HR3.out.ents k hka
            have d0 := ext_cell X.out (ce k hka).1
            have d1 := ext_cell X.out (ce k hka).2
            have HSN := hid (Fs.lst_snoc (s := s) hka)
            have HEE := hid ee
            have hkI : (k : Int) < (sn : Int) := by omega
            clear ce le ee
            by_cases he : f.2.2[k].1 = s
            · rw [if_pos he] at HSN
              rw [he] at d0
              generalize f.2.2[k].2 = y at *
              clear he hka
              have ee := HEE.out
              subst ee
              go_wp2
              go_round
              case rel => exact ⟨k + 1, by omega, by go_num, by rw [HSN.out]⟩
              case measure => simp [intOf]; omega
            · rw [if_neg he] at HSN
              have hne := Fs.tl_ne he
              generalize f.2.2[k].1 = x at *
              generalize f.2.2[k].2 = y at *
              clear he hka
              have ee := HEE.out
              subst ee
              go_wp2
              go_round
              case rel => exact ⟨k + 1, by omega, by go_num, by rw [HSN.out]⟩
              case measure => simp [intOf]; omega
          · obtain rfl : sn = k := by omega
            have HL : Fs.lst (f.2.2.take sn) s = Fs.nof f.2.2 s := by rw [HES.out, List.take_length]; exact Fs.lst_nof HOK.out.syn s
            rw [HL]
            clear HL
            by_cases hn : Fs.nof f.2.2 s < 0
            · have HTN := hid (HT1.out.trans (Fs.told_neg hn))
              have hn1 : Fs.nof f.2.2 s = -1 := by have := Fs.nof_rng (Fs.dir_iff.2 HOK.out.syn) s; omega
              rw [hn1]
              clear hn hn1 hlt
              cases hq : ((G : Int) == 5)
              all_goals (
                have HTV := hid (HTN.out.trans hq)
                go_wp2
                go_round
                case rel => exact ⟨2, by omega, by go_num, by rw [HTV.out]; try rfl⟩
                case measure => simp [intOf])
            · obtain ⟨jn, hj⟩ : ∃ j : Nat, Fs.nof f.2.2 s = (j : Int) := ⟨(Fs.nof f.2.2 s).toNat, by omega⟩
              have hjl : jn < f.1.length := by have := Fs.nof_rng (Fs.dir_iff.2 HOK.out.syn) s; omega
              have HTN := hid (HT1.out.trans (Fs.told_pos hj hjl))
              rw [hj]
              obtain ⟨be, oe, ee, le, ce⟩ := HR1.out.nodes jn hjl
              have d0 := ext_cell X.out (ce jn hjl).1
              have d1 := ext_cell X.out (ce jn hjl).2
              have hjI : (jn : Int) < (nn : Int) := by have := HEN.out; omega
              have HEE := hid ee
              clear ce le ee hj hn hlt
              generalize f.1[jn] = x at *
              obtain ⟨xa, xb⟩ := x
              simp only at d0 d1 HTN
              have ee := HEE.out
              subst ee
              cases hq : ((G : Int) == 0) <;> cases hu : (r.toList == xa.toList) <;> cases hv : (r.toList == xb.toList)
              all_goals (
                have HTW := HTN.out
                simp only [hq, hu, hv, Bool.or_true, Bool.or_false, Bool.and_true, Bool.and_false, Bool.or_self] at HTW
                have HTV := hid HTW
                clear HTW
                go_wp2
                go_round
                case rel => exact ⟨2, by omega, by go_num, by rw [HTV.out]; try rfl⟩
                case measure => simp [intOf])
    · rw [show Fs.okv T0 T1 2 = (T0 || T1) from rfl, HEL.out]
      go_wp2
      go_returns
      exact ⟨rfl, X.out⟩
theorem fsEither_any (f : Fs.FSy) (s : ByteArray) (mk : Nat) (v : Value) (w : World) (hv : FsV w v f) (hb : Fs.FsB f) (hmk : mk < 18446744073709551616) :
    Calls Tryd.prog 7 #[v, .string s, .int .u64 mk] w fun e w' => e = .returned (.bool true) ∧ Ext w w' := by
  by_cases h0 : Fs.fsck f = 0
  · exact fsEither_ok f s mk v w hv hb hmk h0
  · exact fsEither_err f s mk v w hv hb hmk (by rw [Fs.crs_bad h0]; exact h0)
end Go.Proofs.YtolhifnlahllnaaDoor
