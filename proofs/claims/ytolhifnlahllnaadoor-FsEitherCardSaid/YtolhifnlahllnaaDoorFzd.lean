/- Files: the document: without, withEntry: walks (printed by gen_fte.py). Files: the document: sameDir, SameFS: walks (printed by gen_ftf.py). Files: the document: moved, Swept: walks (printed by gen_ftg.py). -/
import Derived.Test.YtolhifnlahllnaaDoorFsu
import Derived.Test.YtolhifnlahllnaaDoorFsr
import Derived.Test.YtolhifnlahllnaaDoorFse
import Derived.Test.YtolhifnlahllnaaDoorTls
import Derived.Test.YtolhifnlahllnaaDoorTlp
import Derived.Test.YtolhifnlahllnaaDoorFta
import Derived.Test.YtolhifnlahllnaaDoorFsx
import Derived.Test.YtolhifnlahllnaaDoorGhl
section
namespace Hy.Fs
open Go
theorem tless_key (s t : ByteArray) : Cel.tless s t = decide (s.data.toList < t.data.toList) := Dct.tless_eq s.data.toList t.data.toList
theorem wout_snoc {l : List Ent} {s : ByteArray} {k : Nat} (h : k < l.length) : wout (l.take (k + 1)) s = wout (l.take k) s ++ (if l[k].1 = s then [] else [l[k]]) := by
  rw [List.take_succ_eq_append_getElem h]
  unfold wout
  rw [List.filter_append]
  by_cases e : l[k].1 = s <;> simp [e]
theorem wout_len (l : List Ent) (s : ByteArray) : (wout l s).length ≤ l.length := by unfold wout; exact List.length_filter_le _ _
/-- those that are less, those that are more -/
def ltL (l : List Ent) (x : Dct.T) : List Ent := l.filter fun y => decide (key y < x)
def gtL (l : List Ent) (x : Dct.T) : List Ent := l.filter fun y => decide (x < key y)
theorem wth_two (l : List Ent) (x : Ent) : wth l x = (ltL l (key x) ++ [x]) ++ gtL l (key x) := by unfold wth ltL gtL; simp
theorem ltL_snoc {l : List Ent} {x : Dct.T} {k : Nat} (h : k < l.length) : ltL (l.take (k + 1)) x = ltL (l.take k) x ++ (if decide (key l[k] < x) = true then [l[k]] else []) := by
  rw [List.take_succ_eq_append_getElem h]
  unfold ltL
  rw [List.filter_append]
  by_cases e : key l[k] < x <;> simp [e]
theorem gtL_snoc {l : List Ent} {x : Dct.T} {k : Nat} (h : k < l.length) : gtL (l.take (k + 1)) x = gtL (l.take k) x ++ (if decide (x < key l[k]) = true then [l[k]] else []) := by
  rw [List.take_succ_eq_append_getElem h]
  unfold gtL
  rw [List.filter_append]
  by_cases e : x < key l[k] <;> simp [e]
theorem ltL_len (l : List Ent) (x : Dct.T) : (ltL l x).length ≤ l.length := by unfold ltL; exact List.length_filter_le _ _
theorem gtL_len (l : List Ent) (x : Dct.T) : (gtL l x).length ≤ l.length := by unfold gtL; exact List.length_filter_le _ _
end Hy.Fs
namespace Go.Proofs.YtolhifnlahllnaaDoor
open Go.RowKit Hy
set_option maxHeartbeats 1600000 in
set_option maxRecDepth 100000 in
theorem without_any (l : List Ent) (s : ByteArray) (A : Option Addr) (n cap : Nat) (w : World) (hn : l.length = n) (hr : Rd w A (ens l)) (hnl : n ≤ 24) :
    Calls Tryd.prog 47 #[.slice A n cap, .string s] w fun e w' => ∃ v, e = .returned v ∧ w'.ownsRow w.heap.size 47 2 v (Fs.wout l s).length (ens (Fs.wout l s)) ∧ Ext w w' := by
  have HN := hid hn
  have HA := hid hr
  have HNL := hid hnl
  have hnI : (n : Int) ≤ 24 := by omega
  clear hn hr hnl
  go_enter Tryd.func47, Tryd.ntmps47
  go_wp2
  go_loopw [5, 6] (fun vn c wr => ∃ k : Nat, k ≤ n ∧ c = .int .i64 k ∧ Hid (wr.ownsRow w.heap.size 47 2 vn (Fs.wout (l.take k) s).length (ens (Fs.wout (l.take k) s))) ∧ Hid (Ext w wr)) (fun _ c _ => n - (intOf c).toNat)
  case atStart => exact ⟨0, Nat.zero_le _, rfl, hid (World.ownsRow_nil _ _ _ _), hid (ext_refl _)⟩
  case round =>
    obtain ⟨k, hk, rfl, HO, HX⟩ := hrel
    by_cases hlt : k < n
    · have hka : k < l.length := by rw [HN.out]; exact hlt
      obtain ⟨b1, o1, e1, l1, c1⟩ := HA.out.ents k hka
      subst e1
      have d0 := ext_cell HX.out (c1 k hka).1
      have d1 := ext_cell HX.out (c1 k hka).2
      have hkI : (k : Int) < (n : Int) := by omega
      have HSN := hid (Fs.wout_snoc (s := s) hka)
      have hle := Fs.wout_len (l.take k) s
      rw [List.length_take] at hle
      have HSW := hid HX.out.size
      obtain ⟨K0, hK0⟩ : ∃ K, K = Fs.wout (l.take k) s := ⟨_, rfl⟩
      rw [← hK0] at HO HSN hle
      obtain ⟨p, hp⟩ : ∃ p, p = K0.length := ⟨_, rfl⟩
      have HP := hid hp
      rw [← hp] at HO hle
      have HPL := hid (show p ≤ 24 by have := HNL.out; omega)
      clear c1 l1 hK0 hp hle
      by_cases he : l[k].1 = s
      · rw [if_pos he, List.append_nil] at HSN
        rw [he] at d0
        generalize l[k].2 = y at *
        clear he hka
        go_wp2
        go_roundw
        case rel => exact ⟨k + 1, by omega, by go_num, by rw [HSN.out, ← HP.out]; exact HO, HX⟩
        case measure => simp [intOf]; omega
      · rw [if_neg he] at HSN
        have hne : ¬ (l[k].1).toList = s.toList := fun h => he (by
          rw [ByteArray.toList_eq, ByteArray.toList_eq] at h
          exact ByteArray.ext (Array.ext' h))
        have hnb : ((l[k].1).toList == s.toList) = false := beq_eq_false_iff_ne.2 hne
        have hnb2 : ((l[k].1).toList != s.toList) = true := by simp [bne, hnb]
        clear hne he
        generalize l[k] = x at *
        obtain ⟨t, y⟩ := x
        simp only at d0 d1 hnb hnb2
        clear hka
        go_wp2_with (at_builtin; go_loud (refine wpList_app rfl (.tmp 20) (.tmp 25) rowEn rfl _ p (ens K0) rfl (own_ext HO.out (Ext.new (ext_refl _) _)) _ 1 (ens [(t, y)]) rfl (Src.rd Tryd.underlying23 _ 1 1 _ rfl (rd_lit rfl rfl) (ens_one _) (fun h => by cases h)) (by have := HPL.out; simp only [maxLen] at *; omega) (by have := HPL.out; omega) (by have := HSW.out; simp; omega) ?_; intro v' w9 hown9 hgrow hat hbel; have HO9 := hid hown9; have XB9 := hid (Below.trans (Below.mono (Ext.new (ext_refl wr) (.cells #[.string t, .int .i64 y] 47)) HSW.out) hbel); clear hown9 hgrow hat hbel))
        go_roundw
        case rel => exact ⟨k + 1, by omega, by go_num, by rw [HSN.out, List.length_append, ← HP.out, ens_app]; exact HO9, hid (Below.trans HX.out XB9.out)⟩
        case measure => simp [intOf]; omega
    · obtain rfl : n = k := by omega
      have HL : l.take n = l := List.take_of_length_le (by rw [HN.out]; exact Nat.le_refl _)
      rw [HL] at HO
      clear HL
      go_wp2
      go_returns
      exact ⟨_, rfl, HO.out, HX.out⟩
set_option maxHeartbeats 3200000 in
set_option maxRecDepth 100000 in
theorem withEntry_any (l : List Ent) (t : ByteArray) (y : Int) (A : Option Addr) (n cap : Nat) (w : World) (hn : l.length = n) (hr : Rd w A (ens l)) (hnl : n ≤ 24) (ht : t.size ≤ 140737488355328) (hl : ∀ x ∈ l, x.1.size ≤ 140737488355328) :
    Calls Tryd.prog 45 #[.slice A n cap, .agg #[.string t, .int .i64 y]] w fun e w' => ∃ v, e = .returned v ∧ w'.ownsRow w.heap.size 47 2 v (Fs.wth l (t, y)).length (ens (Fs.wth l (t, y))) ∧ Ext w w' := by
  have HN := hid hn
  have HA := hid hr
  have HNL := hid hnl
  have HT := hid ht
  have HSL := hid hl
  have hnI : (n : Int) ≤ 24 := by omega
  have HW2 := hid (Fs.wth_two l (t, y))
  rw [show Fs.key (t, y) = t.data.toList from rfl] at HW2
  obtain ⟨ky, hky⟩ : ∃ ky, ky = t.data.toList := ⟨_, rfl⟩
  rw [← hky] at HW2
  have HKY := hid hky
  obtain ⟨WT, hWT⟩ : ∃ W, W = Fs.wth l (t, y) := ⟨_, rfl⟩
  rw [← hWT] at HW2 ⊢
  clear hn hr hnl ht hl hky hWT
  go_enter Tryd.func45, Tryd.ntmps45
  go_upto_region 1 with fail
  refine wp_gen (fun w' => Ext w w' ∧ Blk w' w.heap.size 47 #[.string t, .int .i64 y] ∧ w'.heap.size = w.heap.size + 1) ⟨(ext_refl _).new _, Blk.new _ _ _, by simp⟩ ?_
  rintro wz ⟨B0, B1, B2⟩
  have XZ := hid B0
  have BZ := hid B1
  have HSZ := hid (show w.heap.size + 1 ≤ wz.heap.size by omega)
  clear B0 B1 B2
  go_wp2
  go_loopw [5, 6] (fun vn c wr => ∃ k : Nat, k ≤ n ∧ c = .int .i64 k ∧ Hid (wr.ownsRow (w.heap.size + 1) 47 2 vn (Fs.ltL (l.take k) ky).length (ens (Fs.ltL (l.take k) ky))) ∧ Hid (Below (w.heap.size + 1) wz wr)) (fun _ c _ => n - (intOf c).toNat)
  case atStart => exact ⟨0, Nat.zero_le _, rfl, hid (World.ownsRow_nil _ _ _ _), hid (Below.refl _ _)⟩
  case round =>
    obtain ⟨k, hk, rfl, HO, HX⟩ := hrel
    have HXW := hid (Below.trans XZ.out (Below.mono HX.out (Nat.le_succ _)))
    have HSW := hid (Nat.le_trans HSZ.out HX.out.size)
    have BR := hid (BZ.out.below HX.out (Nat.lt_succ_self _))
    have g0 := BR.out.cell 0
    have g1 := BR.out.cell 1
    by_cases hlt : k < n
    · have hka : k < l.length := by rw [HN.out]; exact hlt
      obtain ⟨b1, o1, e1, l1, c1⟩ := HA.out.ents k hka
      subst e1
      have d0 := ext_cell HXW.out (c1 k hka).1
      have d1 := ext_cell HXW.out (c1 k hka).2
      have hkI : (k : Int) < (n : Int) := by omega
      have HSN := hid (show Fs.ltL (l.take (k + 1)) ky = Fs.ltL (l.take k) ky ++ (if decide (l[k].1.data.toList < ky) = true then [l[k]] else []) by exact Fs.ltL_snoc hka)
      have hle : (Fs.ltL (l.take k) ky).length ≤ 24 := by have h := Fs.ltL_len (l.take k) ky; rw [List.length_take] at h; have := HNL.out; omega
      have HTL := hid (show Gives Tryd.prog 97 #[.string l[k].1, .string t] (.bool (Cel.tless l[k].1 t)) from fun wx => textLess_any l[k].1 t wx (HSL.out _ (List.getElem_mem hka)) HT.out)
      rw [Fs.tless_key, ← HKY.out] at HTL
      obtain ⟨K0, hK0⟩ : ∃ K, K = Fs.ltL (l.take k) ky := ⟨_, rfl⟩
      rw [← hK0] at HO HSN hle
      obtain ⟨p, hp⟩ : ∃ p, p = K0.length := ⟨_, rfl⟩
      have HP := hid hp
      rw [← hp] at HO hle
      have HPL2 := hid hle
      clear c1 l1 hK0 hp hle
      obtain ⟨cd, hcd⟩ : ∃ cd, cd = decide (l[k].1.data.toList < ky) := ⟨_, rfl⟩
      rw [← hcd] at HSN HTL
      clear hcd
      generalize l[k] = x at *
      obtain ⟨tt, yy⟩ := x
      simp only at d0 d1 HTL
      clear hka
      cases cd
      · have HNO := hid HSN.out
        rw [if_neg (by decide), List.append_nil] at HNO
        clear HSN
        go_upto_region 5 with fail
        have d0r := cell_regrown d0
        have g0r := cell_regrown g0
        refine wp_region_quiet_below (by kernel_rfl) (by kernel_rfl) ?_
        repeat (go_big_quiet_step ((go_at_call 97; exact Gives.quiet HTL.out _ _ _)))
        refine wpQuiet_nil ?_
        intro w9 hw9
        obtain ⟨p9, hp9⟩ := hw9
        have XE := hid (show Ext wr w9 by rw [hp9]; exact ext_regrown _ p9)
        clear hp9
        replace HO := hid (own_ext HO.out XE.out)
        replace d0 := ext_cell XE.out d0
        replace d1 := ext_cell XE.out d1
        replace HX := hid (Below.trans HX.out (Below.mono XE.out HSW.out))
        replace HSW := hid (Nat.le_trans HSW.out XE.out.size)
        clear g0 g1 XE HXW BR d0r g0r
        go_wp2
        go_roundw
        case rel => exact ⟨k + 1, by omega, by go_num, by rw [HNO.out, ← HP.out]; exact HO, HX⟩
        case measure => simp [intOf]; omega
      · have HYE := hid HSN.out
        rw [if_pos rfl] at HYE
        clear HSN
        go_upto_region 5 with fail
        have d0r := cell_regrown d0
        have g0r := cell_regrown g0
        refine wp_region_quiet_below (by kernel_rfl) (by kernel_rfl) ?_
        repeat (go_big_quiet_step ((go_at_call 97; exact Gives.quiet HTL.out _ _ _)))
        refine wpQuiet_nil ?_
        intro w9 hw9
        obtain ⟨p9, hp9⟩ := hw9
        have XE := hid (show Ext wr w9 by rw [hp9]; exact ext_regrown _ p9)
        clear hp9
        replace HO := hid (own_ext HO.out XE.out)
        replace d0 := ext_cell XE.out d0
        replace d1 := ext_cell XE.out d1
        replace HX := hid (Below.trans HX.out (Below.mono XE.out HSW.out))
        replace HSW := hid (Nat.le_trans HSW.out XE.out.size)
        clear g0 g1 XE HXW BR d0r g0r
        go_wp2_with (at_builtin; go_loud (refine wpList_app rfl (.tmp 22) (.tmp 27) rowEn rfl _ p (ens K0) rfl (own_ext HO.out (Ext.new (ext_refl _) _)) _ 1 (ens [(tt, yy)]) rfl (Src.rd Tryd.underlying23 _ 1 1 _ rfl (rd_lit rfl rfl) (ens_one _) (fun h => by cases h)) (by have := HPL2.out; simp only [maxLen] at *; omega) (by have := HPL2.out; omega) (by have := HSW.out; simp; omega) ?_; intro v' wq9 hown9 hgrow hat hbel; have HO9 := hid hown9; have XB9 := hid (Below.trans (Below.mono (Ext.new (ext_refl w9) (.cells #[.string tt, .int .i64 yy] 47)) HSW.out) hbel); clear hown9 hgrow hat hbel))
        go_roundw
        case rel => exact ⟨k + 1, by omega, by go_num, by rw [HYE.out, List.length_append, ← HP.out, ens_app]; exact HO9, hid (Below.trans HX.out XB9.out)⟩
        case measure => simp [intOf]; omega
    · obtain rfl : n = k := by omega
      have HL : l.take n = l := List.take_of_length_le (by rw [HN.out]; exact Nat.le_refl _)
      rw [HL] at HO
      clear HL hlt hk
      have hle := Fs.ltL_len l ky
      obtain ⟨K0, hK0⟩ : ∃ K, K = Fs.ltL l ky := ⟨_, rfl⟩
      rw [← hK0] at HO HW2 hle
      obtain ⟨p, hp⟩ : ∃ p, p = K0.length := ⟨_, rfl⟩
      have HP := hid hp
      rw [← hp] at HO hle
      have HPL := hid (show p ≤ 24 by have := HNL.out; have := HN.out; omega)
      clear hK0 hp hle
      go_wp2_with (at_builtin; go_loud (refine wpList_app rfl (.tmp 29) (.tmp 31) rowEn rfl _ p (ens K0) rfl (own_ext HO.out (Ext.new (ext_refl _) _)) _ 1 (ens [(t, y)]) rfl (Src.rd Tryd.underlying23 _ 1 1 _ rfl (rd_lit rfl rfl) (ens_one _) (fun h => by cases h)) (by have := HPL.out; simp only [maxLen] at *; omega) (by have := HPL.out; omega) (by have := HSW.out; simp; omega) ?_; intro v' wq hown9 hgrow hat hbel; have HO9 := hid hown9; have XB9 := hid (Below.trans (Below.mono (Ext.new (ext_refl wr) (.cells #[.string t, .int .i64 y] 47)) HSW.out) hbel); clear hown9 hgrow hat hbel))
      rw [← ens_app] at HO9
      have HL1 := hid (show (K0 ++ [(t, y)]).length = p + 1 by rw [List.length_append, ← HP.out]; rfl)
      obtain ⟨K1, hK1⟩ : ∃ K, K = K0 ++ [(t, y)] := ⟨_, rfl⟩
      rw [← hK1] at HO9 HL1 HW2
      have HXQ := hid (Below.trans XZ.out (Below.mono (Below.trans HX.out XB9.out) (Nat.le_succ _)))
      have BQ := hid (BR.out.below XB9.out (Nat.lt_succ_self _))
      clear hK1 HP HO HX HXW BR g0 g1 XB9
      replace HSW := hid (show w.heap.size + 1 ≤ wq.heap.size by have := BQ.out.lt; omega)
      have HSQ := HSW
      go_loopw [5, 7] (fun vn c wr => ∃ k : Nat, k ≤ n ∧ c = .int .i64 k ∧ Hid (wr.ownsRow (w.heap.size + 1) 47 2 vn ((K1 ++ Fs.gtL (l.take k) ky).length) (ens (K1 ++ Fs.gtL (l.take k) ky))) ∧ Hid (Below (w.heap.size + 1) wq wr)) (fun _ c _ => n - (intOf c).toNat)
      case atStart => exact ⟨0, Nat.zero_le _, rfl, by simp only [List.take_zero, Fs.gtL, List.filter_nil, List.append_nil]; rw [HL1.out]; exact HO9, hid (Below.refl _ _)⟩
      case round =>
        obtain ⟨k, hk, rfl, HO, HX⟩ := hrel
        have HXW := hid (Below.trans HXQ.out (Below.mono HX.out (Nat.le_succ _)))
        have HSW := hid (Nat.le_trans HSQ.out HX.out.size)
        have BR := hid (BQ.out.below HX.out (Nat.lt_succ_self _))
        have g0 := BR.out.cell 0
        have g1 := BR.out.cell 1
        by_cases hlt : k < n
        · have hka : k < l.length := by rw [HN.out]; exact hlt
          obtain ⟨b1, o1, e1, l1, c1⟩ := HA.out.ents k hka
          subst e1
          have d0 := ext_cell HXW.out (c1 k hka).1
          have d1 := ext_cell HXW.out (c1 k hka).2
          have hkI : (k : Int) < (n : Int) := by omega
          have HSN := hid (show K1 ++ Fs.gtL (l.take (k + 1)) ky = K1 ++ Fs.gtL (l.take k) ky ++ (if decide (ky < l[k].1.data.toList) = true then [l[k]] else []) by rw [Fs.gtL_snoc hka, List.append_assoc])
          have hle : (K1 ++ Fs.gtL (l.take k) ky).length ≤ 49 := by have h := Fs.gtL_len (l.take k) ky; rw [List.length_take] at h; have := HNL.out; have := HL1.out; have := HPL.out; rw [List.length_append]; omega
          have HTL := hid (show Gives Tryd.prog 97 #[.string t, .string l[k].1] (.bool (Cel.tless t l[k].1)) from fun wx => textLess_any t l[k].1 wx HT.out (HSL.out _ (List.getElem_mem hka)))
          rw [Fs.tless_key, ← HKY.out] at HTL
          obtain ⟨K0, hK0⟩ : ∃ K, K = K1 ++ Fs.gtL (l.take k) ky := ⟨_, rfl⟩
          rw [← hK0] at HO HSN hle
          obtain ⟨p, hp⟩ : ∃ p, p = K0.length := ⟨_, rfl⟩
          have HP := hid hp
          rw [← hp] at HO hle
          have HPL2 := hid hle
          clear c1 l1 hK0 hp hle
          obtain ⟨cd, hcd⟩ : ∃ cd, cd = decide (ky < l[k].1.data.toList) := ⟨_, rfl⟩
          rw [← hcd] at HSN HTL
          clear hcd
          generalize l[k] = x at *
          obtain ⟨tt, yy⟩ := x
          simp only at d0 d1 HTL
          clear hka
          cases cd
          · have HNO := hid HSN.out
            rw [if_neg (by decide), List.append_nil] at HNO
            clear HSN
            go_upto_region 11 with fail
            have d0r := cell_regrown d0
            have g0r := cell_regrown g0
            refine wp_region_quiet_below (by kernel_rfl) (by kernel_rfl) ?_
            repeat (go_big_quiet_step ((go_at_call 97; exact Gives.quiet HTL.out _ _ _)))
            refine wpQuiet_nil ?_
            intro w9 hw9
            obtain ⟨p9, hp9⟩ := hw9
            have XE := hid (show Ext wr w9 by rw [hp9]; exact ext_regrown _ p9)
            clear hp9
            replace HO := hid (own_ext HO.out XE.out)
            replace d0 := ext_cell XE.out d0
            replace d1 := ext_cell XE.out d1
            replace HX := hid (Below.trans HX.out (Below.mono XE.out HSW.out))
            replace HSW := hid (Nat.le_trans HSW.out XE.out.size)
            clear g0 g1 XE HXW BR d0r g0r
            go_wp2
            go_roundw
            case rel => exact ⟨k + 1, by omega, by go_num, by rw [HNO.out, ← HP.out]; exact HO, HX⟩
            case measure => simp [intOf]; omega
          · have HYE := hid HSN.out
            rw [if_pos rfl] at HYE
            clear HSN
            go_upto_region 11 with fail
            have d0r := cell_regrown d0
            have g0r := cell_regrown g0
            refine wp_region_quiet_below (by kernel_rfl) (by kernel_rfl) ?_
            repeat (go_big_quiet_step ((go_at_call 97; exact Gives.quiet HTL.out _ _ _)))
            refine wpQuiet_nil ?_
            intro w9 hw9
            obtain ⟨p9, hp9⟩ := hw9
            have XE := hid (show Ext wr w9 by rw [hp9]; exact ext_regrown _ p9)
            clear hp9
            replace HO := hid (own_ext HO.out XE.out)
            replace d0 := ext_cell XE.out d0
            replace d1 := ext_cell XE.out d1
            replace HX := hid (Below.trans HX.out (Below.mono XE.out HSW.out))
            replace HSW := hid (Nat.le_trans HSW.out XE.out.size)
            clear g0 g1 XE HXW BR d0r g0r
            go_wp2_with (at_builtin; go_loud (refine wpList_app rfl (.tmp 47) (.tmp 52) rowEn rfl _ p (ens K0) rfl (own_ext HO.out (Ext.new (ext_refl _) _)) _ 1 (ens [(tt, yy)]) rfl (Src.rd Tryd.underlying23 _ 1 1 _ rfl (rd_lit rfl rfl) (ens_one _) (fun h => by cases h)) (by have := HPL2.out; simp only [maxLen] at *; omega) (by have := HPL2.out; omega) (by have := HSW.out; simp; omega) ?_; intro v' wq9 hown9 hgrow hat hbel; have HO9 := hid hown9; have XB9 := hid (Below.trans (Below.mono (Ext.new (ext_refl w9) (.cells #[.string tt, .int .i64 yy] 47)) HSW.out) hbel); clear hown9 hgrow hat hbel))
            go_roundw
            case rel => exact ⟨k + 1, by omega, by go_num, by rw [HYE.out, List.length_append, ← HP.out, ens_app]; exact HO9, hid (Below.trans HX.out XB9.out)⟩
            case measure => simp [intOf]; omega
        · obtain rfl : n = k := by omega
          have HL : l.take n = l := List.take_of_length_le (by rw [HN.out]; exact Nat.le_refl _)
          rw [HL, ← HW2.out] at HO
          clear HL
          go_wp2
          go_returns
          exact ⟨_, rfl, own_low' HO.out (Nat.le_succ _), HXW.out⟩
end Go.Proofs.YtolhifnlahllnaaDoor
end
section
namespace Hy.Fs
open Go
theorem takeStep {α : Type} (a b : List α) (k : Nat) (h1 : k < a.length) (h2 : k < b.length) (ht : a.take k = b.take k) (e : a[k] = b[k]) : a.take (k + 1) = b.take (k + 1) := by
  rw [List.take_succ_eq_append_getElem h1, List.take_succ_eq_append_getElem h2, ht, e]
def sameD (a b : List Ent) : Bool := decide (a = b)
@[irreducible] def sameFS (f g : FSy) : Bool := decide (f = g)
theorem sameFS_iff {f g : FSy} : sameFS f g = true ↔ f = g := by unfold sameFS; simp
theorem sameFS_n {f g : FSy} (h : f.1 ≠ g.1) : sameFS f g = false := by unfold sameFS; simp only [decide_eq_false_iff_not]; rintro rfl; exact h rfl
theorem sameFS_d {f g : FSy} (h : f.2.1 ≠ g.2.1) : sameFS f g = false := by unfold sameFS; simp only [decide_eq_false_iff_not]; rintro rfl; exact h rfl
theorem sameFS_s {f g : FSy} (h : f.2.2 ≠ g.2.2) : sameFS f g = false := by unfold sameFS; simp only [decide_eq_false_iff_not]; rintro rfl; exact h rfl
theorem sameFS_yes {f g : FSy} (h1 : f.1 = g.1) (h2 : f.2.1 = g.2.1) (h3 : f.2.2 = g.2.2) : sameFS f g = true := sameFS_iff.2 (Prod.ext h1 (Prod.ext h2 h3))
theorem tl_ne {s t : ByteArray} (h : s ≠ t) : (s.toList == t.toList) = false := beq_eq_false_iff_ne.2 fun e => h (by
  rw [ByteArray.toList_eq, ByteArray.toList_eq] at e
  exact ByteArray.ext (Array.ext' e))
end Hy.Fs
namespace Go.Proofs.YtolhifnlahllnaaDoor
open Go.RowKit Hy
set_option maxHeartbeats 1600000 in
set_option maxRecDepth 100000 in
theorem sameDir_any (a b : List Ent) (A B : Option Addr) (n m ca cb : Nat) (w : World) (hn : a.length = n) (ha : Rd w A (ens a)) (hm : b.length = m) (hb : Rd w B (ens b)) (hnl : n ≤ 140737488355328) :
    Calls Tryd.prog 53 #[.slice A n ca, .slice B m cb] w fun e w' => e = .returned (.bool (Fs.sameD a b)) ∧ Ext w w' := by
  by_cases hl : n = m
  · subst hl
    have HA := hid ha; have HB := hid hb; have HN := hid hn; have HM := hid hm
    have hnI : (n : Int) ≤ 140737488355328 := by omega
    clear ha hb hn hm hnl
    go_enter Tryd.func53, Tryd.ntmps53
    go_wp2
    go_loopw [5] (fun i wr => ∃ k : Nat, k ≤ n ∧ i = .int .i64 k ∧ a.take k = b.take k ∧ Hid (Ext w wr)) (fun i _ => n - (intOf i).toNat)
    case atStart => exact ⟨0, Nat.zero_le _, rfl, rfl, hid (ext_refl _)⟩
    case round =>
      obtain ⟨k, hk, rfl, ht, X⟩ := hrel
      have HT := hid ht
      clear ht
      by_cases hlt : k < n
      · have h1 : k < a.length := by rw [HN.out]; exact hlt
        have h2 : k < b.length := by rw [HM.out]; exact hlt
        obtain ⟨b1, o1, e1, l1, c1⟩ := HA.out.ents k h1
        obtain ⟨b2, o2, e2, l2, c2⟩ := HB.out.ents k h2
        subst e1 e2
        have d1 := ext_cell X.out (c1 k h1).1
        have f1 := ext_cell X.out (c1 k h1).2
        have d2 := ext_cell X.out (c2 k h2).1
        have f2 := ext_cell X.out (c2 k h2).2
        have HE := hid (Fs.takeStep a b k h1 h2 HT.out)
        have HD := hid (show a[k] ≠ b[k] → Fs.sameD a b = false from fun h => by unfold Fs.sameD; rw [decide_eq_false_iff_not]; rintro rfl; exact h rfl)
        have hkI : (k : Int) < (n : Int) := by omega
        clear c1 c2 l1 l2
        generalize a[k] = x at *
        generalize b[k] = y at *
        clear h1 h2
        obtain ⟨s, u⟩ := x
        obtain ⟨t, v⟩ := y
        simp only at d1 f1 d2 f2
        by_cases hxy : s = t
        · subst hxy
          by_cases h2 : u = v
          · subst h2
            have HT2 := hid (HE.out rfl)
            clear HE HD
            go_wp2_with fail
            go_quiet (fail)
            go_wp2
            go_roundw
            case rel => exact ⟨k + 1, by omega, by go_num, HT2.out, hid (X.out.draws _)⟩
            case measure => simp [intOf] <;> omega
          · have n2 : (u == v) = false := beq_eq_false_iff_ne.2 h2
            have HD2 := hid (HD.out fun e => h2 (Prod.mk.inj e).2)
            clear HE HD h2
            go_wp2_with fail
            go_quiet (fail)
            go_wp2
            go_returns
            exact ⟨by rw [HD2.out]; rfl, X.out.draws _⟩
        · have n1 := Fs.tl_ne hxy
          have HD2 := hid (HD.out fun e => hxy (Prod.mk.inj e).1)
          clear HE HD hxy
          go_wp2_with fail
          go_quiet (fail)
          go_wp2
          go_returns
          exact ⟨by rw [HD2.out]; rfl, X.out.draws _⟩
      · obtain rfl : k = n := by omega
        go_wp2
        go_returns
        refine ⟨?_, X.out⟩
        have := HT.out
        rw [List.take_of_length_le (by rw [HN.out]; exact Nat.le_refl _), List.take_of_length_le (by rw [HM.out]; exact Nat.le_refl _)] at this
        subst this
        simp [Fs.sameD]
  · have hf : Fs.sameD a b = false := by unfold Fs.sameD; rw [decide_eq_false_iff_not]; rintro rfl; omega
    have h3 : ((n : Int) == (m : Int)) = false := by rw [beq_eq_false_iff_ne]; omega
    have h4 : ((n : Int) != (m : Int)) = true := by rw [bne_iff_ne]; omega
    rw [hf]
    clear ha hb hn hm hnl hl hf
    go_enter Tryd.func53, Tryd.ntmps53
    go_wp2
    go_returns
    exact ⟨rfl, ext_refl _⟩
set_option maxHeartbeats 3200000 in
set_option maxRecDepth 100000 in
theorem sameFS_len (f g : Fs.FSy) (v v' : Value) (w : World) (hv : FsV w v f) (hv' : FsV w v' g) (hb : Fs.FsB f) (h : f.1.length ≠ g.1.length) :
    Calls Tryd.prog 21 #[v, v'] w fun e w' => e = .returned (.bool (Fs.sameFS f g)) ∧ Ext w w' := by
  obtain ⟨NA, nc, DA, dc, SA, sc, rfl, h1, h2, h3, _, _, _⟩ := hv
  obtain ⟨NB, nd, DB, dd, SB, sd, rfl, k1, k2, k3, _, _, _⟩ := hv'
  obtain ⟨n, hn⟩ : ∃ n, n = f.1.length := ⟨_, rfl⟩
  obtain ⟨m, hm⟩ : ∃ n, n = f.2.1.length := ⟨_, rfl⟩
  obtain ⟨q, hq⟩ : ∃ n, n = f.2.2.length := ⟨_, rfl⟩
  obtain ⟨n', hn'⟩ : ∃ n, n = g.1.length := ⟨_, rfl⟩
  obtain ⟨m', hm'⟩ : ∃ n, n = g.2.1.length := ⟨_, rfl⟩
  obtain ⟨q', hq'⟩ : ∃ n, n = g.2.2.length := ⟨_, rfl⟩
  have bn := hb.n; have bm := hb.m; have bq := hb.q
  have HSD := hid (fun wx (hx : Ext w wx) => sameDir_any f.2.1 g.2.1 DA DB m m' dc dd wx hm.symm (h2.keep hx) hm'.symm (k2.keep hx) (by omega))
  have HSS := hid (fun wx (hx : Ext w wx) => sameDir_any f.2.2 g.2.2 SA SB q q' sc sd wx hq.symm (h3.keep hx) hq'.symm (k3.keep hx) (by omega))
  rw [← hn, ← hm, ← hq, ← hn', ← hm', ← hq']
  rw [Fs.sameFS_n (fun e => h (by rw [e]))]
  have e3 : ((n : Int) == (n' : Int)) = false := by rw [beq_eq_false_iff_ne]; omega
  have e4 : ((n : Int) != (n' : Int)) = true := by rw [bne_iff_ne]; omega
  clear hm hq hm' hq' h2 h3 k2 k3 hb bn bm bq hn hn' h h1 k1
  go_enter Tryd.func21, Tryd.ntmps21
  go_upto_region 1 with fail
  refine wp_gen (fun w' => Ext w w' ∧ Blk w' w.heap.size 25 #[.slice NA n nc, .slice DA m dc, .slice SA q sc] ∧ Blk w' (w.heap.size + 1) 25 #[.slice NB n' nd, .slice DB m' dd, .slice SB q' sd]) ⟨((ext_refl _).new _).new _, (Blk.new _ _ _).alloc _, Blk.newAt (by simp)⟩ ?_
  rintro wz ⟨B0, B1, B3⟩
  have XZ : Hid (Ext w wz) := hid B0
  have F1 := hid B1
  have F3 := hid B3
  have p0 := B1.cell 0
  have p1 := B1.cell 1
  have p2 := B1.cell 2
  have r0 := B3.cell 0
  have r1 := B3.cell 1
  have r2 := B3.cell 2
  clear B0 B1 B3
  go_wp2
  go_returns
  exact ⟨rfl, XZ.out⟩
set_option maxHeartbeats 3200000 in
set_option maxRecDepth 100000 in
theorem sameFS_dir (f g : Fs.FSy) (v v' : Value) (w : World) (hv : FsV w v f) (hv' : FsV w v' g) (hb : Fs.FsB f) (h : f.1.length = g.1.length) (hd : f.2.1 ≠ g.2.1) :
    Calls Tryd.prog 21 #[v, v'] w fun e w' => e = .returned (.bool (Fs.sameFS f g)) ∧ Ext w w' := by
  obtain ⟨NA, nc, DA, dc, SA, sc, rfl, h1, h2, h3, _, _, _⟩ := hv
  obtain ⟨NB, nd, DB, dd, SB, sd, rfl, k1, k2, k3, _, _, _⟩ := hv'
  obtain ⟨n, hn⟩ : ∃ n, n = f.1.length := ⟨_, rfl⟩
  obtain ⟨m, hm⟩ : ∃ n, n = f.2.1.length := ⟨_, rfl⟩
  obtain ⟨q, hq⟩ : ∃ n, n = f.2.2.length := ⟨_, rfl⟩
  obtain ⟨n', hn'⟩ : ∃ n, n = g.1.length := ⟨_, rfl⟩
  obtain ⟨m', hm'⟩ : ∃ n, n = g.2.1.length := ⟨_, rfl⟩
  obtain ⟨q', hq'⟩ : ∃ n, n = g.2.2.length := ⟨_, rfl⟩
  have bn := hb.n; have bm := hb.m; have bq := hb.q
  have HSD := hid (fun wx (hx : Ext w wx) => sameDir_any f.2.1 g.2.1 DA DB m m' dc dd wx hm.symm (h2.keep hx) hm'.symm (k2.keep hx) (by omega))
  have HSS := hid (fun wx (hx : Ext w wx) => sameDir_any f.2.2 g.2.2 SA SB q q' sc sd wx hq.symm (h3.keep hx) hq'.symm (k3.keep hx) (by omega))
  rw [← hn, ← hm, ← hq, ← hn', ← hm', ← hq']
  rw [Fs.sameFS_d hd]
  rw [show Fs.sameD f.2.1 g.2.1 = false from decide_eq_false hd] at HSD
  obtain rfl : n = n' := by omega
  clear hm hq hm' hq' h2 h3 k2 k3 hb bn bm bq hn hn' h h1 k1 hd
  go_enter Tryd.func21, Tryd.ntmps21
  go_upto_region 1 with fail
  refine wp_gen (fun w' => Ext w w' ∧ Blk w' w.heap.size 25 #[.slice NA n nc, .slice DA m dc, .slice SA q sc] ∧ Blk w' (w.heap.size + 1) 25 #[.slice NB n nd, .slice DB m' dd, .slice SB q' sd]) ⟨((ext_refl _).new _).new _, (Blk.new _ _ _).alloc _, Blk.newAt (by simp)⟩ ?_
  rintro wz ⟨B0, B1, B3⟩
  have XZ : Hid (Ext w wz) := hid B0
  have F1 := hid B1
  have F3 := hid B3
  have p0 := B1.cell 0
  have p1 := B1.cell 1
  have p2 := B1.cell 2
  have r0 := B3.cell 0
  have r1 := B3.cell 1
  have r2 := B3.cell 2
  clear B0 B1 B3
  go_wp2_with fail
  refine Calls.mono (HSD.out _ XZ.out) ?_
  rintro e w1 ⟨rfl, hx⟩
  replace XZ : Hid (Ext w w1) := hid (XZ.out.then hx)
  replace F1 := hid (F1.out.keep hx)
  replace F3 := hid (F3.out.keep hx)
  clear hx p0 p1 p2 r0 r1 r2
  have p0 := F1.out.cell 0
  have p1 := F1.out.cell 1
  have p2 := F1.out.cell 2
  have r0 := F3.out.cell 0
  have r1 := F3.out.cell 1
  have r2 := F3.out.cell 2
  go_wp2
  go_returns
  exact ⟨rfl, XZ.out⟩
set_option maxHeartbeats 3200000 in
set_option maxRecDepth 100000 in
theorem sameFS_syn (f g : Fs.FSy) (v v' : Value) (w : World) (hv : FsV w v f) (hv' : FsV w v' g) (hb : Fs.FsB f) (h : f.1.length = g.1.length) (hd : f.2.1 = g.2.1) (hs : f.2.2 ≠ g.2.2) :
    Calls Tryd.prog 21 #[v, v'] w fun e w' => e = .returned (.bool (Fs.sameFS f g)) ∧ Ext w w' := by
  obtain ⟨NA, nc, DA, dc, SA, sc, rfl, h1, h2, h3, _, _, _⟩ := hv
  obtain ⟨NB, nd, DB, dd, SB, sd, rfl, k1, k2, k3, _, _, _⟩ := hv'
  obtain ⟨n, hn⟩ : ∃ n, n = f.1.length := ⟨_, rfl⟩
  obtain ⟨m, hm⟩ : ∃ n, n = f.2.1.length := ⟨_, rfl⟩
  obtain ⟨q, hq⟩ : ∃ n, n = f.2.2.length := ⟨_, rfl⟩
  obtain ⟨n', hn'⟩ : ∃ n, n = g.1.length := ⟨_, rfl⟩
  obtain ⟨m', hm'⟩ : ∃ n, n = g.2.1.length := ⟨_, rfl⟩
  obtain ⟨q', hq'⟩ : ∃ n, n = g.2.2.length := ⟨_, rfl⟩
  have bn := hb.n; have bm := hb.m; have bq := hb.q
  have HSD := hid (fun wx (hx : Ext w wx) => sameDir_any f.2.1 g.2.1 DA DB m m' dc dd wx hm.symm (h2.keep hx) hm'.symm (k2.keep hx) (by omega))
  have HSS := hid (fun wx (hx : Ext w wx) => sameDir_any f.2.2 g.2.2 SA SB q q' sc sd wx hq.symm (h3.keep hx) hq'.symm (k3.keep hx) (by omega))
  rw [← hn, ← hm, ← hq, ← hn', ← hm', ← hq']
  rw [Fs.sameFS_s hs]
  rw [show Fs.sameD f.2.1 g.2.1 = true from decide_eq_true hd] at HSD
  rw [show Fs.sameD f.2.2 g.2.2 = false from decide_eq_false hs] at HSS
  obtain rfl : n = n' := by omega
  clear hm hq hm' hq' h2 h3 k2 k3 hb bn bm bq hn hn' h h1 k1 hd hs
  go_enter Tryd.func21, Tryd.ntmps21
  go_upto_region 1 with fail
  refine wp_gen (fun w' => Ext w w' ∧ Blk w' w.heap.size 25 #[.slice NA n nc, .slice DA m dc, .slice SA q sc] ∧ Blk w' (w.heap.size + 1) 25 #[.slice NB n nd, .slice DB m' dd, .slice SB q' sd]) ⟨((ext_refl _).new _).new _, (Blk.new _ _ _).alloc _, Blk.newAt (by simp)⟩ ?_
  rintro wz ⟨B0, B1, B3⟩
  have XZ : Hid (Ext w wz) := hid B0
  have F1 := hid B1
  have F3 := hid B3
  have p0 := B1.cell 0
  have p1 := B1.cell 1
  have p2 := B1.cell 2
  have r0 := B3.cell 0
  have r1 := B3.cell 1
  have r2 := B3.cell 2
  clear B0 B1 B3
  go_wp2_with fail
  refine Calls.mono (HSD.out _ XZ.out) ?_
  rintro e w1 ⟨rfl, hx⟩
  replace XZ : Hid (Ext w w1) := hid (XZ.out.then hx)
  replace F1 := hid (F1.out.keep hx)
  replace F3 := hid (F3.out.keep hx)
  clear hx p0 p1 p2 r0 r1 r2
  have p0 := F1.out.cell 0
  have p1 := F1.out.cell 1
  have p2 := F1.out.cell 2
  have r0 := F3.out.cell 0
  have r1 := F3.out.cell 1
  have r2 := F3.out.cell 2
  go_wp2_with fail
  refine Calls.mono (HSS.out _ XZ.out) ?_
  rintro e w1 ⟨rfl, hx⟩
  replace XZ : Hid (Ext w w1) := hid (XZ.out.then hx)
  replace F1 := hid (F1.out.keep hx)
  replace F3 := hid (F3.out.keep hx)
  clear hx p0 p1 p2 r0 r1 r2
  have p0 := F1.out.cell 0
  have p1 := F1.out.cell 1
  have p2 := F1.out.cell 2
  have r0 := F3.out.cell 0
  have r1 := F3.out.cell 1
  have r2 := F3.out.cell 2
  go_wp2
  go_returns
  exact ⟨rfl, XZ.out⟩
set_option maxHeartbeats 3200000 in
set_option maxRecDepth 100000 in
theorem sameFS_nod (f g : Fs.FSy) (v v' : Value) (w : World) (hv : FsV w v f) (hv' : FsV w v' g) (hb : Fs.FsB f) (h : f.1.length = g.1.length) (hd : f.2.1 = g.2.1) (hs : f.2.2 = g.2.2) :
    Calls Tryd.prog 21 #[v, v'] w fun e w' => e = .returned (.bool (Fs.sameFS f g)) ∧ Ext w w' := by
  obtain ⟨NA, nc, DA, dc, SA, sc, rfl, h1, h2, h3, _, _, _⟩ := hv
  obtain ⟨NB, nd, DB, dd, SB, sd, rfl, k1, k2, k3, _, _, _⟩ := hv'
  obtain ⟨n, hn⟩ : ∃ n, n = f.1.length := ⟨_, rfl⟩
  obtain ⟨m, hm⟩ : ∃ n, n = f.2.1.length := ⟨_, rfl⟩
  obtain ⟨q, hq⟩ : ∃ n, n = f.2.2.length := ⟨_, rfl⟩
  obtain ⟨n', hn'⟩ : ∃ n, n = g.1.length := ⟨_, rfl⟩
  obtain ⟨m', hm'⟩ : ∃ n, n = g.2.1.length := ⟨_, rfl⟩
  obtain ⟨q', hq'⟩ : ∃ n, n = g.2.2.length := ⟨_, rfl⟩
  have bn := hb.n; have bm := hb.m; have bq := hb.q
  have HSD := hid (fun wx (hx : Ext w wx) => sameDir_any f.2.1 g.2.1 DA DB m m' dc dd wx hm.symm (h2.keep hx) hm'.symm (k2.keep hx) (by omega))
  have HSS := hid (fun wx (hx : Ext w wx) => sameDir_any f.2.2 g.2.2 SA SB q q' sc sd wx hq.symm (h3.keep hx) hq'.symm (k3.keep hx) (by omega))
  rw [← hn, ← hm, ← hq, ← hn', ← hm', ← hq']
  have HY := hid (fun (e : f.1 = g.1) => Fs.sameFS_yes e hd hs)
  have HNO := hid (fun (e : f.1 ≠ g.1) => Fs.sameFS_n e)
  rw [show Fs.sameD f.2.1 g.2.1 = true from decide_eq_true hd] at HSD
  rw [show Fs.sameD f.2.2 g.2.2 = true from decide_eq_true hs] at HSS
  obtain rfl : n = n' := by omega
  have HA := hid h1; have HB := hid k1; have HN := hid hn.symm; have HM := hid hn'.symm
  have hnI : (n : Int) ≤ 140737488355328 := by omega
  obtain ⟨R, hR⟩ : ∃ R, R = Fs.sameFS f g := ⟨_, rfl⟩
  rw [← hR] at HY HNO ⊢
  clear hm hq hm' hq' h2 h3 k2 k3 hb bn bm bq hn hn' h h1 k1 hd hs hR
  go_enter Tryd.func21, Tryd.ntmps21
  go_upto_region 1 with fail
  refine wp_gen (fun w' => Ext w w' ∧ Blk w' w.heap.size 25 #[.slice NA n nc, .slice DA m dc, .slice SA q sc] ∧ Blk w' (w.heap.size + 1) 25 #[.slice NB n nd, .slice DB m' dd, .slice SB q' sd]) ⟨((ext_refl _).new _).new _, (Blk.new _ _ _).alloc _, Blk.newAt (by simp)⟩ ?_
  rintro wz ⟨B0, B1, B3⟩
  have XZ : Hid (Ext w wz) := hid B0
  have F1 := hid B1
  have F3 := hid B3
  have p0 := B1.cell 0
  have p1 := B1.cell 1
  have p2 := B1.cell 2
  have r0 := B3.cell 0
  have r1 := B3.cell 1
  have r2 := B3.cell 2
  clear B0 B1 B3
  go_wp2_with fail
  refine Calls.mono (HSD.out _ XZ.out) ?_
  rintro e w1 ⟨rfl, hx⟩
  replace XZ : Hid (Ext w w1) := hid (XZ.out.then hx)
  replace F1 := hid (F1.out.keep hx)
  replace F3 := hid (F3.out.keep hx)
  clear hx p0 p1 p2 r0 r1 r2
  have p0 := F1.out.cell 0
  have p1 := F1.out.cell 1
  have p2 := F1.out.cell 2
  have r0 := F3.out.cell 0
  have r1 := F3.out.cell 1
  have r2 := F3.out.cell 2
  go_wp2_with fail
  refine Calls.mono (HSS.out _ XZ.out) ?_
  rintro e w1 ⟨rfl, hx⟩
  replace XZ : Hid (Ext w w1) := hid (XZ.out.then hx)
  replace F1 := hid (F1.out.keep hx)
  replace F3 := hid (F3.out.keep hx)
  clear hx p0 p1 p2 r0 r1 r2
  have p0 := F1.out.cell 0
  have p1 := F1.out.cell 1
  have p2 := F1.out.cell 2
  have r0 := F3.out.cell 0
  have r1 := F3.out.cell 1
  have r2 := F3.out.cell 2
  go_wp2
  clear p0 p1 p2 r0 r1 r2
  generalize f.1 = a at *
  generalize g.1 = b at *
  go_loopw [5] (fun i wr => ∃ k : Nat, k ≤ n ∧ i = .int .i64 k ∧ a.take k = b.take k ∧ Hid (Ext w1 wr)) (fun i _ => n - (intOf i).toNat)
  case atStart => exact ⟨0, Nat.zero_le _, rfl, rfl, hid (ext_refl _)⟩
  case round =>
    obtain ⟨k, hk, rfl, ht, X⟩ := hrel
    have HT := hid ht
    clear ht
    have G1 := hid (F1.out.keep X.out)
    have G3 := hid (F3.out.keep X.out)
    have p0 := G1.out.cell 0
    have r0 := G3.out.cell 0
    by_cases hlt : k < n
    · have h1 : k < a.length := by rw [HN.out]; exact hlt
      have h2 : k < b.length := by rw [HM.out]; exact hlt
      obtain ⟨b1, o1, e1, l1, c1⟩ := HA.out.nodes k h1
      obtain ⟨b2, o2, e2, l2, c2⟩ := HB.out.nodes k h2
      subst e1 e2
      have d1 := ext_cell X.out (ext_cell XZ.out (c1 k h1).1)
      have f1 := ext_cell X.out (ext_cell XZ.out (c1 k h1).2)
      have d2 := ext_cell X.out (ext_cell XZ.out (c2 k h2).1)
      have f2 := ext_cell X.out (ext_cell XZ.out (c2 k h2).2)
      have HE := hid (Fs.takeStep a b k h1 h2 HT.out)
      have HD := hid (show a[k] ≠ b[k] → R = false from fun h => HNO.out (by rintro rfl; exact h rfl))
      have hkI : (k : Int) < (n : Int) := by omega
      clear c1 c2 l1 l2
      generalize a[k] = x at *
      generalize b[k] = y at *
      clear h1 h2
      obtain ⟨s, u⟩ := x
      obtain ⟨t, v⟩ := y
      simp only at d1 f1 d2 f2
      by_cases hxy : s = t
      · subst hxy
        by_cases h2 : u = v
        · subst h2
          have HT2 := hid (HE.out rfl)
          clear HE HD
          go_wp2_with fail
          go_quiet (fail)
          go_wp2
          go_roundw
          case rel => exact ⟨k + 1, by omega, by go_num, HT2.out, hid (X.out.draws _)⟩
          case measure => simp [intOf] <;> omega
        · have n2 := Fs.tl_ne h2
          have HD2 := hid (HD.out fun e => h2 (Prod.mk.inj e).2)
          clear HE HD h2
          go_wp2_with fail
          go_quiet (fail)
          go_wp2
          go_returns
          exact ⟨by rw [HD2.out]; rfl, (XZ.out.then X.out).draws _⟩
      · have n1 := Fs.tl_ne hxy
        have HD2 := hid (HD.out fun e => hxy (Prod.mk.inj e).1)
        clear HE HD hxy
        go_wp2_with fail
        go_quiet (fail)
        go_wp2
        go_returns
        exact ⟨by rw [HD2.out]; rfl, (XZ.out.then X.out).draws _⟩
    · obtain rfl : k = n := by omega
      go_wp2
      go_returns
      refine ⟨?_, XZ.out.then X.out⟩
      have := HT.out
      rw [List.take_of_length_le (by rw [HN.out]; exact Nat.le_refl _), List.take_of_length_le (by rw [HM.out]; exact Nat.le_refl _)] at this
      rw [HY.out this]; rfl
theorem sameFS_any (f g : Fs.FSy) (v v' : Value) (w : World) (hv : FsV w v f) (hv' : FsV w v' g) (hb : Fs.FsB f) :
    Calls Tryd.prog 21 #[v, v'] w fun e w' => e = .returned (.bool (Fs.sameFS f g)) ∧ Ext w w' := by
  by_cases h : f.1.length = g.1.length
  · by_cases hd : f.2.1 = g.2.1
    · by_cases hs : f.2.2 = g.2.2
      · exact sameFS_nod f g v v' w hv hv' hb h hd hs
      · exact sameFS_syn f g v v' w hv hv' hb h hd hs
    · exact sameFS_dir f g v v' w hv hv' hb h hd
  · exact sameFS_len f g v v' w hv hv' hb h
end Go.Proofs.YtolhifnlahllnaaDoor
end
section
namespace Hy.Fs
open Go
theorem mov_snoc (a b : List Ent) {l : List Ent} {k : Nat} (h : k < l.length) : mov a b (l.take (k + 1)) = mov a b (l.take k) ++ [(l[k].1, ((Fs.few a b l[k].2.toNat : Nat) : Int))] := by
  rw [List.take_succ_eq_append_getElem h]; unfold mov; rw [List.map_append]; rfl
end Hy.Fs
namespace Go.Proofs.YtolhifnlahllnaaDoor
open Go.RowKit Hy
set_option maxHeartbeats 3200000 in
set_option maxRecDepth 100000 in
theorem moved_any (a b l : List Ent) (N D S A : Option Addr) (n nc m mc q qc p cap : Nat) (w : World) (hm : a.length = m) (hD : Rd w D (ens a)) (hml : m ≤ 24) (hq : b.length = q) (hS : Rd w S (ens b)) (hql : q ≤ 24) (hp : l.length = p) (hr : Rd w A (ens l)) (hpl : p ≤ 24) (hg : ∀ x ∈ l, 0 ≤ x.2 ∧ x.2 ≤ 24) :
    Calls Tryd.prog 98 #[.agg #[.slice N n nc, .slice D m mc, .slice S q qc], .slice A p cap] w fun e w' => ∃ v, e = .returned v ∧ w'.ownsRow w.heap.size 47 2 v p (ens (Fs.mov a b l)) ∧ Ext w w' := by
  have HN := hid hp
  have HA := hid hr
  have HPL := hid hpl
  have HG := hid hg
  have HFW := hid (fun (k : Nat) (hk : k ≤ 24) wx (hx : Ext w wx) => fewer_any a b N D S n nc m mc q qc k wx hm (hD.keep hx) (by omega) hq (hS.keep hx) (by omega) (by omega))
  have hpI : (p : Int) ≤ 24 := by omega
  clear hm hD hml hq hS hql hp hr hpl hg
  go_enter Tryd.func98, Tryd.ntmps98
  go_upto_region 1 with fail
  refine wp_gen (fun w' => Ext w w' ∧ Blk w' w.heap.size 25 #[.slice N n nc, .slice D m mc, .slice S q qc] ∧ w'.heap.size = w.heap.size + 1) ⟨(ext_refl _).new _, Blk.new _ _ _, by simp⟩ ?_
  rintro wz ⟨B0, B1, B2⟩
  have XZ := hid B0
  have BZ := hid B1
  have HSZ := hid (show w.heap.size + 1 ≤ wz.heap.size by omega)
  clear B0 B1 B2
  go_wp2
  go_loopw [5, 6] (fun vn c wr => ∃ k : Nat, k ≤ p ∧ c = .int .i64 k ∧ Hid (wr.ownsRow (w.heap.size + 1) 47 2 vn k (ens (Fs.mov a b (l.take k)))) ∧ Hid (Below (w.heap.size + 1) wz wr)) (fun _ c _ => p - (intOf c).toNat)
  case atStart => exact ⟨0, Nat.zero_le _, rfl, hid (World.ownsRow_nil _ _ _ _), hid (Below.refl _ _)⟩
  case round =>
    obtain ⟨k, hk, rfl, HO, HX⟩ := hrel
    have HXW : Hid (Ext w wr) := hid (Below.trans XZ.out (Below.mono HX.out (Nat.le_succ _)))
    have HSW := hid (Nat.le_trans HSZ.out HX.out.size)
    have BR := hid (BZ.out.below HX.out (Nat.lt_succ_self _))
    by_cases hlt : k < p
    · have hka : k < l.length := by rw [HN.out]; exact hlt
      obtain ⟨b1, o1, e1, l1, c1⟩ := HA.out.ents k hka
      subst e1
      have d0 := ext_cell HXW.out (c1 k hka).1
      have d1 := ext_cell HXW.out (c1 k hka).2
      have hkI : (k : Int) < (p : Int) := by omega
      obtain ⟨hg1, hg2⟩ := HG.out _ (List.getElem_mem hka)
      have HSN := hid (Fs.mov_snoc a b hka)
      have HFW1 := hid (fun wx (hx : Ext w wx) => HFW.out l[k].2.toNat (by omega) wx hx)
      have hcast : ((l[k].2.toNat : Nat) : Int) = l[k].2 := by omega
      rw [hcast] at HFW1
      obtain ⟨F, hF⟩ : ∃ F, F = Fs.few a b l[k].2.toNat := ⟨_, rfl⟩
      rw [← hF] at HFW1 HSN
      obtain ⟨K0, hK0⟩ : ∃ K, K = Fs.mov a b (l.take k) := ⟨_, rfl⟩
      rw [← hK0] at HO HSN
      have HKL := hid (show k ≤ 24 by have := HPL.out; omega)
      clear c1 l1 hK0 hg1 hg2 hcast hF
      generalize l[k] = x at *
      obtain ⟨tt, yy⟩ := x
      simp only at d0 d1 HFW1 HSN
      clear hka
      have g0 := BR.out.cell 0
      have g1 := BR.out.cell 1
      have g2 := BR.out.cell 2
      go_upto_region 5 with fail
      have g0r := cell_regrown g0
      have g1r := cell_regrown g1
      have g2r := cell_regrown g2
      have d0r := cell_regrown d0
      have d1r := cell_regrown d1
      refine wp_region_late [15] [16] [(0, true), (1, true), (2, true), (3, true), (4, true), (5, true), (6, true), (7, true), (8, true), (9, true), (10, true), (11, true), (12, false), (13, true), (14, false), (15, false), (16, true)] (by kernel_rfl) (by kernel_rfl) (fun _ _ _ _ _ h => h) (by kernel_rfl) (by rfl) ?_
      simp only [List.filterMap_cons, List.filterMap_nil, List.getElem?_toArray, List.getElem?_cons_zero, List.getElem?_cons_succ, Option.map_some, List.contains_cons, List.contains_nil, Nat.reduceBEq, Bool.or_false]
      repeat ((first | refine wpL_val (by rfl) ?_ | refine wpL_pure (by rfl) ?_); intro K hK; go_big_quiet_op; go_big_quiet_on)
      refine wpL_do (by rfl) ?_
      intro K hK
      go_simp
      refine Calls.mono (HFW1.out _ (HXW.out.then (Ext.draw (ext_refl wr)))) ?_
      rintro e w5 ⟨rfl, hx⟩
      have Y0 := hid (Ext.then (Ext.draw (ext_refl wr)) hx)
      refine hK _ _ Y0.out ?_
      clear K hK hx
      repeat ((first | refine wpL_val (by rfl) ?_ | refine wpL_pure (by rfl) ?_); intro K hK; go_big_quiet_op; go_big_quiet_on)
      refine wpL_do (by rfl) ?_
      intro K hK
      go_simp
      have Y1 := hid (Ext.new Y0.out (.cells #[.string tt, .int .i64 (F : Nat)] 47))
      refine hK _ _ Y1.out ?_
      clear K hK
      refine wpL_late (by rfl) ?_
      intro K hK
      refine wp_app (.tmp 13) (.tmp 27) rowEn rfl _ k (ens K0) rfl (own_ext HO.out Y1.out) _ 1 (ens [(tt, (F : Int))]) rfl (Src.rd Tryd.underlying23 _ 1 1 _ rfl (rd_lit rfl rfl) (ens_one _) (fun h => by cases h)) (by have := HKL.out; simp only [maxLen] at *; omega) (by have := HKL.out; omega) (Nat.le_trans HSW.out Y1.out.size) ?_
      intro v' w9 hown9 hgrow hat hbel
      have HO9 := hid hown9
      have XB9 := hid (Below.trans (Below.mono Y1.out HSW.out) hbel)
      clear hown9 hgrow hat hbel
      refine hK _ _ ?_
      clear K hK g0 g1 g2 g0r g1r g2r d0 d1 d0r d1r
      simp only [Act.put, List.setIfInBounds_toArray, List.set_cons_zero, List.set_cons_succ]
      refine wpL_pure (by rfl) ?_
      intro K hK
      go_big_quiet_op
      go_big_quiet_on
      refine wpL_nil ?_
      go_wp2
      go_roundw
      case rel => exact ⟨k + 1, by omega, by go_num, by rw [HSN.out, ens_app]; exact HO9, hid (Below.trans HX.out XB9.out)⟩
      case measure => simp [intOf] <;> omega
    · obtain rfl : p = k := by omega
      have HL : l.take p = l := List.take_of_length_le (by rw [HN.out]; exact Nat.le_refl _)
      rw [HL] at HO
      clear HL
      go_wp2
      go_returns
      exact ⟨_, rfl, own_low' HO.out (Nat.le_succ _), HXW.out⟩
set_option maxHeartbeats 6400000 in
set_option maxRecDepth 100000 in
theorem sweptOf_any (f : Fs.FSy) (v : Value) (w : World) (hv : FsV w v f) (h24 : f.1.length ≤ 24) (hml : f.2.1.length ≤ 24) (hql : f.2.2.length ≤ 24) (hg : ∀ x ∈ f.2.1, 0 ≤ x.2 ∧ x.2 ≤ 24) (hg' : ∀ x ∈ f.2.2, 0 ≤ x.2 ∧ x.2 ≤ 24) :
    Calls Tryd.prog 46 #[v] w fun e w' => ∃ v', e = .returned v' ∧ FsO w' w.heap.size v' (Fs.swp f) ∧ Ext w w' := by
  obtain ⟨NL, DL, SL⟩ := f
  simp only at h24 hml hql hg hg'
  obtain ⟨NA, nc, DA, mc, SA, qc, rfl, h1, h2, h3, _, _, _⟩ := hv
  simp only at h1 h2 h3 ⊢
  obtain ⟨n, hn⟩ : ∃ n, n = NL.length := ⟨_, rfl⟩
  obtain ⟨m, hm⟩ : ∃ n, n = DL.length := ⟨_, rfl⟩
  obtain ⟨q, hq⟩ : ∃ n, n = SL.length := ⟨_, rfl⟩
  rw [← hn] at h24
  rw [← hm] at hml
  rw [← hq] at hql
  rw [← hn, ← hm, ← hq, Fs.swp_eq]
  simp only
  have HMV1 := hid (fun wx (hx : Ext w wx) => moved_any DL SL DL NA DA SA DA n nc m mc q qc m mc wx hm.symm (h2.keep hx) hml hq.symm (h3.keep hx) hql hm.symm (h2.keep hx) hml hg)
  have HMV2 := hid (fun wx (hx : Ext w wx) => moved_any DL SL SL NA DA SA SA n nc m mc q qc q qc wx hm.symm (h2.keep hx) hml hq.symm (h3.keep hx) hql hq.symm (h3.keep hx) hql hg')
  have HIN := hid (fun (i : Nat) wx (hx : Ext w wx) => isNamed_any DL SL i DA SA m q mc qc wx hm.symm (h2.keep hx) (by omega) hq.symm (h3.keep hx) (by omega))
  have HN := hid hn; have HM := hid hm; have HQ := hid hq
  have HNR := hid h1
  have HL24 := hid h24
  have hnI : (n : Int) ≤ 24 := by omega
  clear hn hm hq h1 h2 h3 h24 hml hql hg hg'
  go_enter Tryd.func46, Tryd.ntmps46
  go_upto_region 1 with fail
  refine wp_gen (fun w' => Ext w w' ∧ Blk w' w.heap.size 25 #[.slice NA n nc, .slice DA m mc, .slice SA q qc] ∧ Blk w' (w.heap.size + 1) 25 #[.slice none 0 0, .slice none 0 0, .slice none 0 0]) ⟨((ext_refl _).new _).new _, (Blk.new _ _ _).alloc _, Blk.newAt (by simp)⟩ ?_
  rintro wz ⟨B0, B1, B2⟩
  have XZ := hid B0
  have BZ := hid B1
  have BR := hid B2
  have HSZ := hid (show w.heap.size + 2 ≤ wz.heap.size by have := B2.lt; omega)
  have g0 := B1.cell 0
  have g1 := B1.cell 1
  have g2 := B1.cell 2
  clear B0 B1 B2
  go_upto_region 1 with fail
  refine Code.wp_mono (Q := fun e a w' => e = .normal ∧ ∃ (g : Nat) (A1 : Option Addr) (c1 : Nat) (A2 : Option Addr) (c2 : Nat), a = ⟨#[.agg #[.slice NA n nc, .slice DA m mc, .slice SA q qc], .pointer (some ⟨w.heap.size, 0, none⟩), .pointer (some ⟨w.heap.size + 1, 0, none⟩), .pointer (some ⟨g, 0, none⟩), undef, .agg #[.slice NA n nc, .slice DA m mc, .slice SA q qc], .pointer (some ⟨w.heap.size, 1, none⟩), .slice DA m mc, .slice A1 m c1, .agg #[.slice NA n nc, .slice DA m mc, .slice SA q qc], .pointer (some ⟨w.heap.size, 2, none⟩), .slice SA q qc, .slice A2 q c2, .agg #[.slice none 0 0, .slice A1 m c1, .slice A2 q c2], undef, undef, undef, undef, undef, undef, undef, undef, undef, undef, undef, undef, undef, undef, undef, undef, undef, undef, undef, undef, undef, undef, undef, undef], []⟩ ∧ Hid (Ext wz w') ∧ Hid (wz.heap.size ≤ g) ∧ Hid (Blk w' g 25 #[.slice none 0 0, .slice A1 m c1, .slice A2 q c2]) ∧ Hid (w'.ownsRow (w.heap.size + 2) 47 2 (.slice A1 m c1) m (ens (Fs.mov DL SL DL))) ∧ Hid (w'.ownsRow (w.heap.size + 2) 47 2 (.slice A2 q c2) q (ens (Fs.mov DL SL SL)))) ?_ ?_
  rotate_left
  · have g0r := cell_regrown g0
    have g1r := cell_regrown g1
    have g2r := cell_regrown g2
    refine wp_region_tree (.one 0 true (.one 1 true (.one 2 true (.one 4 true (.one 5 true (.one 6 true (.two 3 9 (.two 7 9 (.one 8 true (.one 9 false (.one 10 false (.nil)))) (.one 7 false (.one 8 true (.one 10 false (.nil))))) (.one 3 false (.one 7 false (.one 8 true (.one 10 false (.nil)))))))))))) (by kernel_rfl) (by kernel_rfl) (by rintro _ _ _ _ _ ⟨h, _⟩; cases h) (by kernel_rfl) (by rfl) ?_
    simp only [fillT, List.getD_cons_zero, List.getD_cons_succ]
    have Y0 : Ext wz wz.drew := (ext_refl wz).draw
    generalize wz.drew = y0 at Y0 ⊢
    repeat (refine wpTO_val (by rfl) ?_; intro K hK; go_big_quiet_op; go_big_quiet_on)
    refine wpTO_two ?_ ?_
    · refine wpTO_do (by rfl) ?_
      intro K hK
      go_simp
      refine Calls.mono (HMV1.out _ (XZ.out.then Y0)) ?_
      rintro e y1 ⟨v1, rfl, ow, hx⟩
      have Y1 := Ext.then Y0 hx
      have O1 := own_low' ow (base := w.heap.size + 2) (Nat.le_trans HSZ.out ((Y0).size))
      obtain ⟨A1, c1, rfl, _, _, _, _⟩ := Rd.owned O1
      refine hK _ _ Y1 ?_
      clear K hK hx ow
      refine wpTO_two ?_ ?_
      · refine wpTO_do (by rfl) ?_
        intro K hK
        go_simp
        refine Calls.mono (HMV2.out _ (XZ.out.then Y1)) ?_
        rintro e y2 ⟨v2, rfl, ow, hx⟩
        have Y2 := Ext.then Y1 hx
        have O2 := own_low' ow (base := w.heap.size + 2) (Nat.le_trans HSZ.out ((Y1).size))
        obtain ⟨A2, c2, rfl, _, _, _, _⟩ := Rd.owned O2
        replace O1 := own_ext O1 (hx)
        refine hK _ _ Y2 ?_
        clear K hK hx ow
        repeat (refine wpTO_val (by rfl) ?_; intro K hK; go_big_quiet_op; go_big_quiet_on)
        refine wpTO_do (by rfl) ?_
        intro K hK
        go_simp
        replace O1 := own_ext O1 (Ext.new (ext_refl y2) (.cells #[.slice none 0 0, .slice none 0 0, .slice none 0 0] 25))
        replace O2 := own_ext O2 (Ext.new (ext_refl y2) (.cells #[.slice none 0 0, .slice none 0 0, .slice none 0 0] 25))
        have BG := Blk.new y2 25 #[.slice none 0 0, .slice none 0 0, .slice none 0 0]
        have Y3 := Ext.new Y2 (.cells #[.slice none 0 0, .slice none 0 0, .slice none 0 0] 25)
        have hgs := (Y2).size
        obtain ⟨g, hg⟩ : ∃ g, g = (y2 : World).heap.size := ⟨_, rfl⟩
        rw [← hg] at BG hgs ⊢
        generalize (y2 : World).alloc (.cells #[.slice none 0 0, .slice none 0 0, .slice none 0 0] 25) = y3 at *
        refine hK _ _ Y3 ?_
        clear K hK hg
        have q0 := BG.cell 0
        have q1 := BG.cell 1
        have q2 := BG.cell 2
        have f0 := BG.frozen 0
        have f1 := BG.frozen 1
        have f2 := BG.frozen 2
        refine wpTO_do (by rfl) ?_
        intro K hK
        go_simp
        refine hK _ _ (Ext.put (Ext.put (Ext.put Y3 (p := ⟨g, 0, none⟩) hgs (.slice none 0 0)) (p := ⟨g, 1, none⟩) hgs (.slice A1 m c1)) (p := ⟨g, 2, none⟩) hgs (.slice A2 q c2)) ?_
        clear K hK
        refine wpTO_nil ?_
        refine ⟨rfl, g, A1, c1, A2, c2, by first | rfl | (simp only [Act.put, List.setIfInBounds_toArray, List.set_cons_zero, List.set_cons_succ]; rfl), hid (Ext.put (Ext.put (Ext.put Y3 (p := ⟨g, 0, none⟩) hgs (.slice none 0 0)) (p := ⟨g, 1, none⟩) hgs (.slice A1 m c1)) (p := ⟨g, 2, none⟩) hgs (.slice A2 q c2)), hid hgs, hid ((((BG.set 0 (.slice none 0 0)).set 1 (.slice A1 m c1)).set 2 (.slice A2 q c2)).cast (by simp)), hid ?_, hid ?_⟩
        · exact own_put (own_put (own_put O1 (p := ⟨g, 0, none⟩) (own_nblk O1 BG (by decide)) _) (p := ⟨g, 1, none⟩) (own_nblk O1 BG (by decide)) _) (p := ⟨g, 2, none⟩) (own_nblk O1 BG (by decide)) _
        · exact own_put (own_put (own_put O2 (p := ⟨g, 0, none⟩) (own_nblk O2 BG (by decide)) _) (p := ⟨g, 1, none⟩) (own_nblk O2 BG (by decide)) _) (p := ⟨g, 2, none⟩) (own_nblk O2 BG (by decide)) _
      · refine wpTO_do (by rfl) ?_
        intro K hK
        go_simp
        replace O1 := own_ext O1 (Ext.new (ext_refl y1) (.cells #[.slice none 0 0, .slice none 0 0, .slice none 0 0] 25))
        have BG := Blk.new y1 25 #[.slice none 0 0, .slice none 0 0, .slice none 0 0]
        have Y4 := Ext.new Y1 (.cells #[.slice none 0 0, .slice none 0 0, .slice none 0 0] 25)
        have hgs := (Y1).size
        obtain ⟨g, hg⟩ : ∃ g, g = (y1 : World).heap.size := ⟨_, rfl⟩
        rw [← hg] at BG hgs ⊢
        generalize (y1 : World).alloc (.cells #[.slice none 0 0, .slice none 0 0, .slice none 0 0] 25) = y4 at *
        refine hK _ _ Y4 ?_
        clear K hK hg
        refine wpTO_do (by rfl) ?_
        intro K hK
        go_simp
        refine Calls.mono (HMV2.out _ (XZ.out.then Y4)) ?_
        rintro e y5 ⟨v2, rfl, ow, hx⟩
        have Y5 := Ext.then Y4 hx
        have O2 := own_low' ow (base := w.heap.size + 2) (Nat.le_trans HSZ.out ((Y4).size))
        obtain ⟨A2, c2, rfl, _, _, _, _⟩ := Rd.owned O2
        replace O1 := own_ext O1 (hx)
        replace BG := Blk.keep BG (hx)
        refine hK _ _ Y5 ?_
        clear K hK hx ow
        repeat (refine wpTO_val (by rfl) ?_; intro K hK; go_big_quiet_op; go_big_quiet_on)
        have q0 := BG.cell 0
        have q1 := BG.cell 1
        have q2 := BG.cell 2
        have f0 := BG.frozen 0
        have f1 := BG.frozen 1
        have f2 := BG.frozen 2
        refine wpTO_do (by rfl) ?_
        intro K hK
        go_simp
        refine hK _ _ (Ext.put (Ext.put (Ext.put Y5 (p := ⟨g, 0, none⟩) hgs (.slice none 0 0)) (p := ⟨g, 1, none⟩) hgs (.slice A1 m c1)) (p := ⟨g, 2, none⟩) hgs (.slice A2 q c2)) ?_
        clear K hK
        refine wpTO_nil ?_
        refine ⟨rfl, g, A1, c1, A2, c2, by first | rfl | (simp only [Act.put, List.setIfInBounds_toArray, List.set_cons_zero, List.set_cons_succ]; rfl), hid (Ext.put (Ext.put (Ext.put Y5 (p := ⟨g, 0, none⟩) hgs (.slice none 0 0)) (p := ⟨g, 1, none⟩) hgs (.slice A1 m c1)) (p := ⟨g, 2, none⟩) hgs (.slice A2 q c2)), hid hgs, hid ((((BG.set 0 (.slice none 0 0)).set 1 (.slice A1 m c1)).set 2 (.slice A2 q c2)).cast (by simp)), hid ?_, hid ?_⟩
        · exact own_put (own_put (own_put O1 (p := ⟨g, 0, none⟩) (own_nblk O1 BG (by decide)) _) (p := ⟨g, 1, none⟩) (own_nblk O1 BG (by decide)) _) (p := ⟨g, 2, none⟩) (own_nblk O1 BG (by decide)) _
        · exact own_put (own_put (own_put O2 (p := ⟨g, 0, none⟩) (own_nblk O2 BG (by decide)) _) (p := ⟨g, 1, none⟩) (own_nblk O2 BG (by decide)) _) (p := ⟨g, 2, none⟩) (own_nblk O2 BG (by decide)) _
    · refine wpTO_do (by rfl) ?_
      intro K hK
      go_simp
      have BG := Blk.new y0 25 #[.slice none 0 0, .slice none 0 0, .slice none 0 0]
      have Y6 := Ext.new Y0 (.cells #[.slice none 0 0, .slice none 0 0, .slice none 0 0] 25)
      have hgs := (Y0).size
      obtain ⟨g, hg⟩ : ∃ g, g = (y0 : World).heap.size := ⟨_, rfl⟩
      rw [← hg] at BG hgs ⊢
      generalize (y0 : World).alloc (.cells #[.slice none 0 0, .slice none 0 0, .slice none 0 0] 25) = y6 at *
      refine hK _ _ Y6 ?_
      clear K hK hg
      refine wpTO_do (by rfl) ?_
      intro K hK
      go_simp
      refine Calls.mono (HMV1.out _ (XZ.out.then Y6)) ?_
      rintro e y7 ⟨v1, rfl, ow, hx⟩
      have Y7 := Ext.then Y6 hx
      have O1 := own_low' ow (base := w.heap.size + 2) (Nat.le_trans HSZ.out ((Y6).size))
      obtain ⟨A1, c1, rfl, _, _, _, _⟩ := Rd.owned O1
      replace BG := Blk.keep BG (hx)
      refine hK _ _ Y7 ?_
      clear K hK hx ow
      refine wpTO_do (by rfl) ?_
      intro K hK
      go_simp
      refine Calls.mono (HMV2.out _ (XZ.out.then Y7)) ?_
      rintro e y8 ⟨v2, rfl, ow, hx⟩
      have Y8 := Ext.then Y7 hx
      have O2 := own_low' ow (base := w.heap.size + 2) (Nat.le_trans HSZ.out ((Y7).size))
      obtain ⟨A2, c2, rfl, _, _, _, _⟩ := Rd.owned O2
      replace O1 := own_ext O1 (hx)
      replace BG := Blk.keep BG (hx)
      refine hK _ _ Y8 ?_
      clear K hK hx ow
      repeat (refine wpTO_val (by rfl) ?_; intro K hK; go_big_quiet_op; go_big_quiet_on)
      have q0 := BG.cell 0
      have q1 := BG.cell 1
      have q2 := BG.cell 2
      have f0 := BG.frozen 0
      have f1 := BG.frozen 1
      have f2 := BG.frozen 2
      refine wpTO_do (by rfl) ?_
      intro K hK
      go_simp
      refine hK _ _ (Ext.put (Ext.put (Ext.put Y8 (p := ⟨g, 0, none⟩) hgs (.slice none 0 0)) (p := ⟨g, 1, none⟩) hgs (.slice A1 m c1)) (p := ⟨g, 2, none⟩) hgs (.slice A2 q c2)) ?_
      clear K hK
      refine wpTO_nil ?_
      refine ⟨rfl, g, A1, c1, A2, c2, by first | rfl | (simp only [Act.put, List.setIfInBounds_toArray, List.set_cons_zero, List.set_cons_succ]; rfl), hid (Ext.put (Ext.put (Ext.put Y8 (p := ⟨g, 0, none⟩) hgs (.slice none 0 0)) (p := ⟨g, 1, none⟩) hgs (.slice A1 m c1)) (p := ⟨g, 2, none⟩) hgs (.slice A2 q c2)), hid hgs, hid ((((BG.set 0 (.slice none 0 0)).set 1 (.slice A1 m c1)).set 2 (.slice A2 q c2)).cast (by simp)), hid ?_, hid ?_⟩
      · exact own_put (own_put (own_put O1 (p := ⟨g, 0, none⟩) (own_nblk O1 BG (by decide)) _) (p := ⟨g, 1, none⟩) (own_nblk O1 BG (by decide)) _) (p := ⟨g, 2, none⟩) (own_nblk O1 BG (by decide)) _
      · exact own_put (own_put (own_put O2 (p := ⟨g, 0, none⟩) (own_nblk O2 BG (by decide)) _) (p := ⟨g, 1, none⟩) (own_nblk O2 BG (by decide)) _) (p := ⟨g, 2, none⟩) (own_nblk O2 BG (by decide)) _

  rintro e a y ⟨rfl, g, A1, c1, A2, c2, rfl, XY, HGS, BG, O1, O2⟩
  clear g0 g1 g2
  have XW : Hid (Below (w.heap.size + 2) wz y) := hid (Below.mono XY.out HSZ.out)
  replace HGS := hid (show w.heap.size + 2 ≤ g from Nat.le_trans HSZ.out HGS.out)
  clear XY
  go_wp2
  go_loopw [4] (fun c wr => ∃ (k : Nat) (vn : Value), k ≤ n ∧ c = .int .i64 k ∧ Hid (wr.ownsRow (w.heap.size + 2) 49 2 vn (Fs.few DL SL k) (nds (Fs.keep DL SL 0 (NL.take k)))) ∧ Hid (Blk wr g 25 #[vn, .slice A1 m c1, .slice A2 q c2]) ∧ Hid (wr.ownsRow (w.heap.size + 2) 47 2 (.slice A1 m c1) m (ens (Fs.mov DL SL DL))) ∧ Hid (wr.ownsRow (w.heap.size + 2) 47 2 (.slice A2 q c2) q (ens (Fs.mov DL SL SL))) ∧ Hid (Below (w.heap.size + 2) wz wr)) (fun c _ => n - (intOf c).toNat)
  case atStart => exact ⟨0, .slice none 0 0, Nat.zero_le _, rfl, hid (World.ownsRow_nil _ _ _ _), BG, O1, O2, XW⟩
  case round =>
    clear BG O1 O2 XW
    obtain ⟨k, vn, hk, rfl, HO, BG, O1, O2, HX⟩ := hrel
    have X0 : Hid (Ext w wr) := hid (Below.trans XZ.out (Below.mono HX.out (by omega)))
    have BS := hid (BZ.out.below HX.out (by omega))
    have BT := hid (BR.out.below HX.out (by omega))
    have HSR := hid (show w.heap.size + 2 ≤ wr.heap.size from Nat.le_trans HSZ.out HX.out.size)
    have g0 := BS.out.cell 0
    have g1 := BS.out.cell 1
    have g2 := BS.out.cell 2
    obtain ⟨p, hp⟩ : ∃ p, p = Fs.few DL SL k := ⟨_, rfl⟩
    obtain ⟨K0, hK0⟩ : ∃ K0, K0 = Fs.keep DL SL 0 (NL.take k) := ⟨_, rfl⟩
    rw [← hp, ← hK0] at HO
    obtain ⟨A9, c9, rfl, _, _, _, _⟩ := Rd.owned HO.out
    have hpk := Fs.few_le DL SL k
    rw [← hp] at hpk
    have hfs := Fs.few_succ DL SL k
    rw [← hp] at hfs
    have hpI : (p : Int) ≤ 24 := by have := HL24.out; omega
    have HP24 := hid (show p ≤ 24 by have := HL24.out; omega)
    by_cases hlt : k < n
    · have hka : k < NL.length := by rw [← HN.out]; exact hlt
      obtain ⟨b1, o1, e1, l1, c1'⟩ := HNR.out.nodes k hka
      have d0 := ext_cell X0.out (c1' k hka).1
      have d1 := ext_cell X0.out (c1' k hka).2
      have hkI : (k : Int) < (n : Int) := by omega
      have HI1 := hid (HIN.out k wr X0.out)
      have hsn : Fs.keep DL SL 0 (NL.take (k + 1)) = K0 ++ (if Fs.nmd DL (k : Int) || Fs.nmd SL (k : Int) then [NL[k]] else []) := by
        rw [List.take_succ_eq_append_getElem hka, Fs.keep_snoc, ← hK0, List.length_take, Nat.zero_add, Nat.min_eq_left (by omega)]
      have he1 := hid e1
      clear c1' e1 hK0 hp
      generalize NL[k] = x at *
      clear hka
      obtain ⟨s, t⟩ := x
      simp only at d0 d1
      have e1 := he1.out
      subst e1
      cases hnm : (Fs.nmd DL (k : Int) || Fs.nmd SL (k : Int)) with
      | false =>
        rw [hnm] at hfs hsn HI1
        have HSN := hid (show Fs.keep DL SL 0 (NL.take (k + 1)) = K0 by rw [hsn]; simp)
        have HFS := hid (show Fs.few DL SL (k + 1) = p by rw [hfs]; rfl)
        clear hnm hfs hsn
        go_wp2_with (go_at_call 52; refine HI1.out.mono ?_; rintro e w4 ⟨rfl, rfl⟩)
        go_roundw
        case rel => exact ⟨k + 1, _, by omega, by go_num, by rw [HSN.out, HFS.out]; exact HO, BG, O1, O2, HX⟩
        case measure => simp [intOf] <;> omega
      | true =>
        rw [hnm] at hfs hsn HI1
        have HSN := hid (show Fs.keep DL SL 0 (NL.take (k + 1)) = K0 ++ [(s, t)] by rw [hsn]; rfl)
        have HFS := hid (show Fs.few DL SL (k + 1) = p + 1 by rw [hfs]; rfl)
        clear hnm hfs hsn
        have v0 := BG.out.cell 0
        have vf := BG.out.frozen 0
        go_wp2_with (go_at_call 52; refine HI1.out.mono ?_; rintro e w4 ⟨rfl, rfl⟩)
        have g0r := cell_regrown g0
        have d0r := cell_regrown d0
        have d1r := cell_regrown d1
        have v0r := cell_regrown v0
        refine wp_region_late [8, 10] [9] [(0, true), (1, true), (2, true), (3, true), (4, true), (5, true), (6, true), (7, false), (8, false), (9, true), (10, false)] (by kernel_rfl) (by kernel_rfl) (fun _ _ _ _ _ h => h) (by kernel_rfl) (by rfl) ?_
        simp only [List.filterMap_cons, List.filterMap_nil, List.getElem?_toArray, List.getElem?_cons_zero, List.getElem?_cons_succ, Option.map_some, List.contains_cons, List.contains_nil, Nat.reduceBEq, Bool.or_false, Bool.or_true]
        repeat ((first | refine wpL_val (by rfl) ?_ | refine wpL_pure (by rfl) ?_); intro K hK; go_big_quiet_op; go_big_quiet_on)
        refine wpL_do (by rfl) ?_
        intro K hK
        go_simp
        have Y1 := hid (Ext.new (Ext.draw (ext_refl wr)) (.cells #[.string s, .string t] 49))
        refine hK _ _ Y1.out ?_
        clear K hK
        refine wpL_late (by rfl) ?_
        intro K hK
        refine wp_app (.tmp 28) (.tmp 34) rowNo rfl _ p (nds K0) rfl (own_ext HO.out Y1.out) _ 1 (nds [(s, t)]) rfl (Src.rd Tryd.underlying22 _ 1 1 _ rfl (rd_lit rfl rfl) (nds_one _) (fun h => by cases h)) (by have := HP24.out; simp only [maxLen] at *; omega) (by have := HP24.out; omega) (Nat.le_trans HSR.out Y1.out.size) ?_
        intro v' w9 hown9 hgrow hat hbel
        have HO9 := hid hown9
        have B9 := hid (Blk.grown (BG.out.keep Y1.out) hgrow (own_nblk HO.out BG.out (by decide)))
        have K1 := hid ((own_ext O1.out Y1.out).kept hgrow (own_ne O1.out HO.out (by decide)))
        have K2 := hid ((own_ext O2.out Y1.out).kept hgrow (own_ne O2.out HO.out (by decide)))
        have XB9 := hid (Below.trans (Below.mono Y1.out HSR.out) hbel)
        obtain ⟨A', c', rfl, _, _, _, _⟩ := Rd.owned hown9
        have v0 := B9.out.cell 0
        have vf := B9.out.frozen 0
        clear hown9 hgrow hat hbel
        refine hK _ _ ?_
        clear K hK g0 g1 g2 g0r d0 d1 d0r d1r v0r
        simp only [Act.put, List.setIfInBounds_toArray, List.set_cons_zero, List.set_cons_succ]
        repeat (refine wpL_pure (by rfl) ?_; intro K hK; go_big_quiet_op; go_big_quiet_on)
        refine wpL_late (by rfl) ?_
        intro K hK
        go_simp
        refine hK _ _ ?_
        clear K hK
        refine wpL_nil ?_
        go_wp2
        go_roundw
        case rel => exact ⟨k + 1, .slice A' (p + 1) c', by omega, by go_num, by rw [HSN.out, HFS.out, nds_app]; exact hid (own_put HO9.out (p := ⟨g, 0, none⟩) (own_nblk HO9.out B9.out (by decide)) _), hid ((B9.out.set 0 (.slice A' (p + 1) c')).cast (by simp)), hid (own_put K1.out (p := ⟨g, 0, none⟩) (own_nblk K1.out B9.out (by decide)) _), hid (own_put K2.out (p := ⟨g, 0, none⟩) (own_nblk K2.out B9.out (by decide)) _), hid (Below.setCell (Below.trans HX.out XB9.out) HGS.out (p := ⟨g, 0, none⟩) _)⟩
        case measure => simp [intOf] <;> omega
    · obtain rfl : n = k := by omega
      have HWk := HN.out
      have hkl := Fs.keep_len DL SL NL
      rw [← HWk, ← hp] at hkl
      have hK : K0 = Fs.keep DL SL 0 NL := by rw [hK0, HWk, List.take_length]
      rw [hK] at HO
      have hmv2 : (Fs.mov DL SL DL).length = m := by rw [Fs.mov_len]; exact HM.out.symm
      have hmv3 : (Fs.mov DL SL SL).length = q := by rw [Fs.mov_len]; exact HQ.out.symm
      have HKL := hid hkl; have HM2 := hid hmv2; have HM3 := hid hmv3
      clear hkl hmv2 hmv3 hK hK0 hp HWk hpk hfs
      have v0 := BG.out.cell 0
      have v1 := BG.out.cell 1
      have v2 := BG.out.cell 2
      have t0 := BT.out.cell 0
      have t1 := BT.out.cell 1
      have t2 := BT.out.cell 2
      have f0 := BT.out.frozen 0
      have f1 := BT.out.frozen 1
      have f2 := BT.out.frozen 2
      have hne : w.heap.size + 1 < w.heap.size + 2 := by omega
      go_wp2
      have HBF := hid ((((BT.out.set 0 (.slice A9 p c9)).set 1 (.slice A1 m c1)).set 2 (.slice A2 q c2)).cast (cs' := #[.slice A9 p c9, .slice A1 m c1, .slice A2 q c2]) (by simp))
      have XF := hid (Ext.put (Ext.put (Ext.put X0.out (p := ⟨w.heap.size + 1, 0, none⟩) (by simp only; omega) (.slice A9 p c9)) (p := ⟨w.heap.size + 1, 1, none⟩) (by simp only; omega) (.slice A1 m c1)) (p := ⟨w.heap.size + 1, 2, none⟩) (by simp only; omega) (.slice A2 q c2))
      have L0 := hid (own_past (own_past (own_past HO.out (p := ⟨w.heap.size + 1, 0, none⟩) hne (.slice A9 p c9)) (p := ⟨w.heap.size + 1, 1, none⟩) hne (.slice A1 m c1)) (p := ⟨w.heap.size + 1, 2, none⟩) hne (.slice A2 q c2))
      have L1 := hid (own_past (own_past (own_past O1.out (p := ⟨w.heap.size + 1, 0, none⟩) hne (.slice A9 p c9)) (p := ⟨w.heap.size + 1, 1, none⟩) hne (.slice A1 m c1)) (p := ⟨w.heap.size + 1, 2, none⟩) hne (.slice A2 q c2))
      have L2 := hid (own_past (own_past (own_past O2.out (p := ⟨w.heap.size + 1, 0, none⟩) hne (.slice A9 p c9)) (p := ⟨w.heap.size + 1, 1, none⟩) hne (.slice A1 m c1)) (p := ⟨w.heap.size + 1, 2, none⟩) hne (.slice A2 q c2))
      refine bodyPost_ret (results_blk rfl _ _ (w.heap.size + 1) 25 _ _ rfl HBF.out Tryd.underlying25 rfl (by kernel_rfl)) rfl ?_
      refine ⟨_, rfl, ⟨A9, c9, A1, c1, A2, c2, ?_, ?_, ?_, ?_⟩, XF.out⟩
      · simp only; rw [HKL.out, HM2.out, HM3.out]
      · simp only; rw [HKL.out]; exact own_low' L0.out (Nat.le_add_right _ _)
      · simp only; rw [HM2.out]; exact own_low' L1.out (Nat.le_add_right _ _)
      · simp only; rw [HM3.out]; exact own_low' L2.out (Nat.le_add_right _ _)
end Go.Proofs.YtolhifnlahllnaaDoor
end
