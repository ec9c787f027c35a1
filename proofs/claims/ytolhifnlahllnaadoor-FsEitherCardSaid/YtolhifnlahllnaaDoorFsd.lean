/- Files: dir: walk (printed by gen_fsd.py). -/
import Derived.Test.YtolhifnlahllnaaDoorFsc
import Derived.Sort.OwnSorted
import Derived.Maps.Own
import Derived.Maps.OwnOps
import Derived.Maps.OwnSet
namespace Hy.Fs
open Go Go.Maps
/-- the map knows which nodes were named -/
def KnowsI (l : List Ent) (k : Nat) (D : DataW Unit) : Prop := IsMap D ∧ ∀ z : Int, Maps.has D (.int .i64 z) = nmd (l.take k) z
theorem knowsI_zero (l : List Ent) : KnowsI l 0 (.map []) := ⟨isMap_empty, fun _ => rfl⟩
theorem nmd_succ (l : List Ent) (k : Nat) (h : k < l.length) (z : Int) : nmd (l.take (k + 1)) z = (nmd (l.take k) z || l[k].2 == z) := by
  unfold nmd; rw [List.take_succ_eq_append_getElem h, List.any_append]; simp
theorem knowsI_put (l : List Ent) (k : Nat) (h : k < l.length) (D : DataW Unit) (d : DataW Unit) (H : KnowsI l k D) : KnowsI l (k + 1) (D.put (.int .i64 l[k].2) d) := by
  refine ⟨H.1.put _ _, fun z => ?_⟩
  rw [nmd_succ l k h]
  by_cases he : z = l[k].2
  · subst he
    rw [has_put_same H.1 (by simp [WideAt.IsKeyLit])]; simp
  · rw [has_put_other (by intro e; injection e with _ e; exact he e), H.2 z]
    have : (l[k].2 == z) = false := beq_eq_false_iff_ne.2 fun e => he e.symm
    rw [this, Bool.or_false]
theorem up_bytes (l : List Ent) (j : Nat) (h : j < l.length) (x : Ent) : notUp (l.take (j + 1)) x = !Op.bytesLess (l[j].1).toList x.1.toList := by
  rw [notUp_succ l j h, ByteArray.toList_eq, ByteArray.toList_eq, Dct.bless]
end Hy.Fs
namespace Go.Proofs.YtolhifnlahllnaaDoor
open Go.RowKit Hy Go.Maps
theorem fzeroI (w : World) : (zeroValue 3).run Tryd.prog w = .ok (.int .i64 0) w := by kernel_rfl
theorem fmap_keep {w w' : World} {k e : TypeId} {b n : Nat} {D : DataW Unit} (h : w.ownsMap Tryd.prog k (plainElem Tryd.prog e) b n D) (hx : Ext w w') : w'.ownsMap Tryd.prog k (plainElem Tryd.prog e) b n D := by
  obtain ⟨es, cl, hb, F, h1, h2⟩ := h
  refine ⟨es, cl, ?_, F, h1, h2⟩
  have hlt : b < w.heap.size := by
    rcases Nat.lt_or_ge b w.heap.size with hlt | hge
    · exact hlt
    · rw [Array.getElem?_eq_none hge] at hb; cases hb
  rw [hx.block b hlt]; exact hb
set_option maxRecDepth 100000 in
set_option maxHeartbeats 3200000 in
theorem dir_any (l : List Ent) (m : Int) (A : Option Addr) (n cap : Nat) (w : World) (hn : l.length = n) (hr : Rd w A (ens l)) (hnl : n ≤ 140737488355328) (hs : ∀ x ∈ l, x.1.size ≤ 140737488355328) (hi : ∀ x ∈ l, -9223372036854775808 ≤ x.2 ∧ x.2 ≤ 9223372036854775807) :
    Calls Tryd.prog 49 #[.slice A n cap, .int .i64 m] w fun e w' => e = .returned (.int .i64 (Fs.dirck m l : Nat)) ∧ Ext w w' := by
  have HN := hid hn
  have HA := hid hr
  have HSZ := hid hs
  have HIX := hid hi
  obtain ⟨R, hR⟩ : ∃ R, R = Fs.dirck m l := ⟨_, rfl⟩
  rw [← hR]
  have HR0 := hid (show R = Fs.dck m (l.take 0) (l.drop 0) by rw [hR]; exact Fs.dirck_eq m l)
  have hnI : (n : Int) ≤ 140737488355328 := by omega
  have HML := hid (show n < maxLen by unfold maxLen; omega)
  have hmm := @run_makeMap Tryd.prog
  clear hR hn hr hnl hs hi
  go_enter Tryd.func49, Tryd.ntmps49
  go_wp2
  go_loopw [13] (fun c wr => ∃ (k : Nat) (D : DataW Unit), k ≤ n ∧ c = .int .i64 k ∧ Hid (R = Fs.dck m (l.take k) (l.drop k)) ∧ Hid (wr.ownsMap Tryd.prog 3 (plainElem Tryd.prog 3) w.heap.size k D) ∧ Hid (Fs.KnowsI l k D) ∧ Hid (Ext w wr)) (fun c _ => n - (intOf c).toNat)
  case atStart => exact ⟨0, .map [], Nat.zero_le _, rfl, HR0, hid (World.ownsMap_made _ _ _ _), hid (Fs.knowsI_zero l), hid ((ext_refl _).new _)⟩
  case round =>
    obtain ⟨k, D, hk, rfl, HI, HO, HK, HX⟩ := hrel
    by_cases hlt : k < n
    · have hka : k < l.length := by rw [HN.out]; exact hlt
      obtain ⟨b1, o1, e1, l1, c1⟩ := HA.out.ents k hka
      subst e1
      have d0 := ext_cell HX.out (c1 k hka).1
      have d1 := ext_cell HX.out (c1 k hka).2
      have hkI : (k : Int) < (n : Int) := by omega
      have HC1 := hid c1
      have hw := Fs.dck_ways m l k hka
      rw [← HI.out] at hw
      have HUP := hid (fun j (hjl : j < l.length) (hj : k = j + 1) => (show Fs.notUp (l.take k) l[k] = !Op.bytesLess (l[j].1).toList l[k].1.toList by subst hj; exact Fs.up_bytes l j hjl l[j + 1]))
      have HNC := hid (fun wx => name_any l[k].1 wx (HSZ.out _ (List.getElem_mem hka)))
      have hkey : keyOf Tryd.prog 3 (.int .i64 l[k].2) = some (.int .i64 l[k].2) := keyOf_int_mk Tryd.underlying3 (by have := HIX.out _ (List.getElem_mem hka); exact WalkArith.wf_i64 (by omega))
      have HASK := hid (HK.out.2 l[k].2)
      have HPUT := hid (Fs.knowsI_put l k hka D (.lit (.int .i64 (k : Nat))) HK.out)
      have HKML := hid (show k < maxLen by have := HML.out; omega)
      obtain ⟨q9, hq9⟩ : ∃ q, q = Fs.nmd (l.take k) l[k].2 := ⟨_, rfl⟩
      rw [← hq9] at HASK hw
      have HQ := hid hq9
      clear c1 hq9
      generalize l[k] = x at *
      clear hka
      obtain ⟨s, node⟩ := x
      simp only at d0 d1 hw HUP HNC hkey HASK HPUT HQ
      rcases hw with ⟨W1, WR⟩ | ⟨W1, W2, WR⟩ | ⟨W1, W2, W3, WR⟩ | ⟨W1, W2, W3, W4, WR⟩ | ⟨W1, W2, W3, W4, W5, WR⟩ | ⟨W1, W2, W3, W4, W5, WR⟩
      · have HV := hid WR
        rw [W1] at HNC
        clear W1 WR HK
        go_wp2_with (first | (at_lookup; refine wpList_lookup_own_ok_int _ rfl _ _ 140 rfl 3 3 .i64 (int_keyed Tryd.underlying3) Tryd.underlying140 Tryd.underlying3 (fzeroI _) w.heap.size k _ rfl (fmap_keep HO.out ((ext_refl _).new _)) _ _ rfl hkey ?_; rw [HASK.out]; intro cz hatz hwc; clear hatz hwc) | (go_at_call 88; refine (HNC.out _).mono ?_; rintro e w1 ⟨rfl, x1⟩; have X1 := hid (Ext.then (Ext.new (ext_refl wr) (.cells #[.string s, .int .i64 node] 47)) x1); have g0 := ext_cell x1 ((Blk.new wr 47 #[.string s, .int .i64 node]).cell 0); have g1 := ext_cell x1 ((Blk.new wr 47 #[.string s, .int .i64 node]).cell 1); clear x1))
        go_returns
        exact ⟨by rw [HV.out]; rfl, HX.out.then X1.out⟩
      · by_cases hk0 : k = 0
        · rw [W1] at HNC
          exact absurd W2 (by rw [hk0, Fs.notUp_zero]; decide)
        · rw [W1] at HNC
          obtain ⟨j, hj⟩ : ∃ j, k = j + 1 := ⟨k - 1, by omega⟩
          have hk0I : (0 : Int) < (k : Int) := by omega
          have hd1 : decide ((0 : Int) < (k : Int)) = true := decide_eq_true (by omega)
          have hd2 : decide (0 < k) = true := decide_eq_true (by omega)
          have hjl : j < l.length := by rw [HN.out]; omega
          have hjI : (j : Int) < (n : Int) := by omega
          have hj1 : (k : Int) - 1 = (j : Int) := by omega
          have hw1 : IntKind.i64.wrap ((k : Int) - 1) = (j : Int) := by rw [IntKind.wrap_i64]; omega
          have hw2 : IntKind.i64.wrap (j : Int) = (j : Int) := by rw [IntKind.wrap_i64]; omega
          have hup := (HUP.out j hjl hj).symm.trans W2
          have dj := ext_cell HX.out (HC1.out j hjl).1
          have hub : Op.bytesLess (l[j]'hjl).1.toList s.toList = false := by simpa using hup
          generalize (l[j]'hjl).1 = y at *
          clear hup hk0 hj hjl
          have HV := hid WR
          clear W1 W2 WR HK
          go_wp2_with (first | (at_lookup; refine wpList_lookup_own_ok_int _ rfl _ _ 140 rfl 3 3 .i64 (int_keyed Tryd.underlying3) Tryd.underlying140 Tryd.underlying3 (fzeroI _) w.heap.size k _ rfl (fmap_keep HO.out ((ext_refl _).new _)) _ _ rfl hkey ?_; rw [HASK.out]; intro cz hatz hwc; clear hatz hwc) | (go_at_call 88; refine (HNC.out _).mono ?_; rintro e w1 ⟨rfl, x1⟩; have X1 := hid (Ext.then (Ext.new (ext_refl wr) (.cells #[.string s, .int .i64 node] 47)) x1); have g0 := ext_cell x1 ((Blk.new wr 47 #[.string s, .int .i64 node]).cell 0); have g1 := ext_cell x1 ((Blk.new wr 47 #[.string s, .int .i64 node]).cell 1); clear x1; have dj1 := ext_cell X1.out dj))
          go_quiet (fail)
          go_wp2
          go_returns
          exact ⟨by rw [HV.out]; rfl, (HX.out.then X1.out).draws _⟩
      · by_cases hk0 : k = 0
        · rw [W1] at HNC
          have hk0I : (k : Int) ≤ 0 := by omega
          have hd1 : decide ((0 : Int) < (k : Int)) = false := decide_eq_false (by omega)
          have hd2 : decide (0 < k) = false := decide_eq_false (by omega)
          clear hk0
          have HV := hid WR
          clear W1 W2 WR HK
          go_wp2_with (first | (at_lookup; refine wpList_lookup_own_ok_int _ rfl _ _ 140 rfl 3 3 .i64 (int_keyed Tryd.underlying3) Tryd.underlying140 Tryd.underlying3 (fzeroI _) w.heap.size k _ rfl (fmap_keep HO.out ((ext_refl _).new _)) _ _ rfl hkey ?_; rw [HASK.out]; intro cz hatz hwc; clear hatz hwc) | (go_at_call 88; refine (HNC.out _).mono ?_; rintro e w1 ⟨rfl, x1⟩; have X1 := hid (Ext.then (Ext.new (ext_refl wr) (.cells #[.string s, .int .i64 node] 47)) x1); have g0 := ext_cell x1 ((Blk.new wr 47 #[.string s, .int .i64 node]).cell 0); have g1 := ext_cell x1 ((Blk.new wr 47 #[.string s, .int .i64 node]).cell 1); clear x1))
          go_quiet (fail)
          go_wp2
          go_returns
          exact ⟨by rw [HV.out]; rfl, (HX.out.then X1.out).draws _⟩
        · rw [W1] at HNC
          obtain ⟨j, hj⟩ : ∃ j, k = j + 1 := ⟨k - 1, by omega⟩
          have hk0I : (0 : Int) < (k : Int) := by omega
          have hd1 : decide ((0 : Int) < (k : Int)) = true := decide_eq_true (by omega)
          have hd2 : decide (0 < k) = true := decide_eq_true (by omega)
          have hjl : j < l.length := by rw [HN.out]; omega
          have hjI : (j : Int) < (n : Int) := by omega
          have hj1 : (k : Int) - 1 = (j : Int) := by omega
          have hw1 : IntKind.i64.wrap ((k : Int) - 1) = (j : Int) := by rw [IntKind.wrap_i64]; omega
          have hw2 : IntKind.i64.wrap (j : Int) = (j : Int) := by rw [IntKind.wrap_i64]; omega
          have hup := (HUP.out j hjl hj).symm.trans W2
          have dj := ext_cell HX.out (HC1.out j hjl).1
          have hub : Op.bytesLess (l[j]'hjl).1.toList s.toList = true := by simpa using hup
          generalize (l[j]'hjl).1 = y at *
          clear hup hk0 hj hjl
          have HV := hid WR
          clear W1 W2 WR HK
          go_wp2_with (first | (at_lookup; refine wpList_lookup_own_ok_int _ rfl _ _ 140 rfl 3 3 .i64 (int_keyed Tryd.underlying3) Tryd.underlying140 Tryd.underlying3 (fzeroI _) w.heap.size k _ rfl (fmap_keep HO.out ((ext_refl _).new _)) _ _ rfl hkey ?_; rw [HASK.out]; intro cz hatz hwc; clear hatz hwc) | (go_at_call 88; refine (HNC.out _).mono ?_; rintro e w1 ⟨rfl, x1⟩; have X1 := hid (Ext.then (Ext.new (ext_refl wr) (.cells #[.string s, .int .i64 node] 47)) x1); have g0 := ext_cell x1 ((Blk.new wr 47 #[.string s, .int .i64 node]).cell 0); have g1 := ext_cell x1 ((Blk.new wr 47 #[.string s, .int .i64 node]).cell 1); clear x1; have dj1 := ext_cell X1.out dj))
          go_quiet (fail)
          go_wp2
          go_returns
          exact ⟨by rw [HV.out]; rfl, (HX.out.then X1.out).draws _⟩
      · by_cases hk0 : k = 0
        · rw [W1] at HNC
          have hk0I : (k : Int) ≤ 0 := by omega
          have hd1 : decide ((0 : Int) < (k : Int)) = false := decide_eq_false (by omega)
          have hd2 : decide (0 < k) = false := decide_eq_false (by omega)
          clear hk0
          have HV := hid WR
          have W3n : ¬ node < 0 := by omega
          clear W1 W2 WR HK
          go_wp2_with (first | (at_lookup; refine wpList_lookup_own_ok_int _ rfl _ _ 140 rfl 3 3 .i64 (int_keyed Tryd.underlying3) Tryd.underlying140 Tryd.underlying3 (fzeroI _) w.heap.size k _ rfl (fmap_keep HO.out ((ext_refl _).new _)) _ _ rfl hkey ?_; rw [HASK.out]; intro cz hatz hwc; clear hatz hwc) | (go_at_call 88; refine (HNC.out _).mono ?_; rintro e w1 ⟨rfl, x1⟩; have X1 := hid (Ext.then (Ext.new (ext_refl wr) (.cells #[.string s, .int .i64 node] 47)) x1); have g0 := ext_cell x1 ((Blk.new wr 47 #[.string s, .int .i64 node]).cell 0); have g1 := ext_cell x1 ((Blk.new wr 47 #[.string s, .int .i64 node]).cell 1); clear x1))
          go_quiet (fail)
          go_wp2
          go_returns
          exact ⟨by rw [HV.out]; rfl, (HX.out.then X1.out).draws _⟩
        · rw [W1] at HNC
          obtain ⟨j, hj⟩ : ∃ j, k = j + 1 := ⟨k - 1, by omega⟩
          have hk0I : (0 : Int) < (k : Int) := by omega
          have hd1 : decide ((0 : Int) < (k : Int)) = true := decide_eq_true (by omega)
          have hd2 : decide (0 < k) = true := decide_eq_true (by omega)
          have hjl : j < l.length := by rw [HN.out]; omega
          have hjI : (j : Int) < (n : Int) := by omega
          have hj1 : (k : Int) - 1 = (j : Int) := by omega
          have hw1 : IntKind.i64.wrap ((k : Int) - 1) = (j : Int) := by rw [IntKind.wrap_i64]; omega
          have hw2 : IntKind.i64.wrap (j : Int) = (j : Int) := by rw [IntKind.wrap_i64]; omega
          have hup := (HUP.out j hjl hj).symm.trans W2
          have dj := ext_cell HX.out (HC1.out j hjl).1
          have hub : Op.bytesLess (l[j]'hjl).1.toList s.toList = true := by simpa using hup
          generalize (l[j]'hjl).1 = y at *
          clear hup hk0 hj hjl
          have HV := hid WR
          have W3n : ¬ node < 0 := by omega
          clear W1 W2 WR HK
          go_wp2_with (first | (at_lookup; refine wpList_lookup_own_ok_int _ rfl _ _ 140 rfl 3 3 .i64 (int_keyed Tryd.underlying3) Tryd.underlying140 Tryd.underlying3 (fzeroI _) w.heap.size k _ rfl (fmap_keep HO.out ((ext_refl _).new _)) _ _ rfl hkey ?_; rw [HASK.out]; intro cz hatz hwc; clear hatz hwc) | (go_at_call 88; refine (HNC.out _).mono ?_; rintro e w1 ⟨rfl, x1⟩; have X1 := hid (Ext.then (Ext.new (ext_refl wr) (.cells #[.string s, .int .i64 node] 47)) x1); have g0 := ext_cell x1 ((Blk.new wr 47 #[.string s, .int .i64 node]).cell 0); have g1 := ext_cell x1 ((Blk.new wr 47 #[.string s, .int .i64 node]).cell 1); clear x1; have dj1 := ext_cell X1.out dj))
          go_quiet (fail)
          go_wp2
          go_returns
          exact ⟨by rw [HV.out]; rfl, (HX.out.then X1.out).draws _⟩
      · by_cases hk0 : k = 0
        · rw [W1] at HNC
          have hk0I : (k : Int) ≤ 0 := by omega
          have hd1 : decide ((0 : Int) < (k : Int)) = false := decide_eq_false (by omega)
          have hd2 : decide (0 < k) = false := decide_eq_false (by omega)
          clear hk0
          have HV := hid WR
          have HQV := hid W5
          subst W5
          clear W1 W2 WR HK
          go_wp2_with (first | (at_lookup; refine wpList_lookup_own_ok_int _ rfl _ _ 140 rfl 3 3 .i64 (int_keyed Tryd.underlying3) Tryd.underlying140 Tryd.underlying3 (fzeroI _) w.heap.size k _ rfl (fmap_keep HO.out ((ext_refl _).new _)) _ _ rfl hkey ?_; rw [HASK.out]; intro cz hatz hwc; clear hatz hwc) | (go_at_call 88; refine (HNC.out _).mono ?_; rintro e w1 ⟨rfl, x1⟩; have X1 := hid (Ext.then (Ext.new (ext_refl wr) (.cells #[.string s, .int .i64 node] 47)) x1); have g0 := ext_cell x1 ((Blk.new wr 47 #[.string s, .int .i64 node]).cell 0); have g1 := ext_cell x1 ((Blk.new wr 47 #[.string s, .int .i64 node]).cell 1); clear x1))
          go_quiet (fail)
          go_wp2
          go_returns
          exact ⟨by rw [HV.out]; rfl, (HX.out.then X1.out).draws _⟩
        · rw [W1] at HNC
          obtain ⟨j, hj⟩ : ∃ j, k = j + 1 := ⟨k - 1, by omega⟩
          have hk0I : (0 : Int) < (k : Int) := by omega
          have hd1 : decide ((0 : Int) < (k : Int)) = true := decide_eq_true (by omega)
          have hd2 : decide (0 < k) = true := decide_eq_true (by omega)
          have hjl : j < l.length := by rw [HN.out]; omega
          have hjI : (j : Int) < (n : Int) := by omega
          have hj1 : (k : Int) - 1 = (j : Int) := by omega
          have hw1 : IntKind.i64.wrap ((k : Int) - 1) = (j : Int) := by rw [IntKind.wrap_i64]; omega
          have hw2 : IntKind.i64.wrap (j : Int) = (j : Int) := by rw [IntKind.wrap_i64]; omega
          have hup := (HUP.out j hjl hj).symm.trans W2
          have dj := ext_cell HX.out (HC1.out j hjl).1
          have hub : Op.bytesLess (l[j]'hjl).1.toList s.toList = true := by simpa using hup
          generalize (l[j]'hjl).1 = y at *
          clear hup hk0 hj hjl
          have HV := hid WR
          have HQV := hid W5
          subst W5
          clear W1 W2 WR HK
          go_wp2_with (first | (at_lookup; refine wpList_lookup_own_ok_int _ rfl _ _ 140 rfl 3 3 .i64 (int_keyed Tryd.underlying3) Tryd.underlying140 Tryd.underlying3 (fzeroI _) w.heap.size k _ rfl (fmap_keep HO.out ((ext_refl _).new _)) _ _ rfl hkey ?_; rw [HASK.out]; intro cz hatz hwc; clear hatz hwc) | (go_at_call 88; refine (HNC.out _).mono ?_; rintro e w1 ⟨rfl, x1⟩; have X1 := hid (Ext.then (Ext.new (ext_refl wr) (.cells #[.string s, .int .i64 node] 47)) x1); have g0 := ext_cell x1 ((Blk.new wr 47 #[.string s, .int .i64 node]).cell 0); have g1 := ext_cell x1 ((Blk.new wr 47 #[.string s, .int .i64 node]).cell 1); clear x1; have dj1 := ext_cell X1.out dj))
          go_quiet (fail)
          go_wp2
          go_returns
          exact ⟨by rw [HV.out]; rfl, (HX.out.then X1.out).draws _⟩
      · by_cases hk0 : k = 0
        · rw [W1] at HNC
          have hk0I : (k : Int) ≤ 0 := by omega
          have hd1 : decide ((0 : Int) < (k : Int)) = false := decide_eq_false (by omega)
          have hd2 : decide (0 < k) = false := decide_eq_false (by omega)
          clear hk0
          have HV := hid WR
          have HQV := hid W5
          subst W5
          clear W1 W2 WR HK
          go_wp2_with (first | (at_lookup; refine wpList_lookup_own_ok_int _ rfl _ _ 140 rfl 3 3 .i64 (int_keyed Tryd.underlying3) Tryd.underlying140 Tryd.underlying3 (fzeroI _) w.heap.size k _ rfl (fmap_keep HO.out ((ext_refl _).new _)) _ _ rfl hkey ?_; rw [HASK.out]; intro cz hatz hwc; clear hatz hwc) | (go_at_call 88; refine (HNC.out _).mono ?_; rintro e w1 ⟨rfl, x1⟩; have X1 := hid (Ext.then (Ext.new (ext_refl wr) (.cells #[.string s, .int .i64 node] 47)) x1); have g0 := ext_cell x1 ((Blk.new wr 47 #[.string s, .int .i64 node]).cell 0); have g1 := ext_cell x1 ((Blk.new wr 47 #[.string s, .int .i64 node]).cell 1); clear x1))
          go_quiet (fail)
          go_wp2_with (at_mapUpdate; refine wpList_mapUpdate_own _ rfl _ _ _ 140 rfl 3 3 (int_keyed Tryd.underlying3) Tryd.underlying140 _ w.heap.size k _ rfl (fmap_keep HO.out (X1.out.draws _)) HKML.out _ _ _ rfl rfl hkey _ [] (plainElem_int Tryd.underlying3 (WalkArith.wf_i64 (by omega))) ?_; intro w5 hown5 hgrow5; have HO5 := hid hown5; have HX5 := hid ((HX.out.then (X1.out.draws _)).grown hgrow5 (HX.out.then (X1.out.draws _)).size (fun j hj => by cases hj; exact Nat.le_refl _)); clear hown5 hgrow5)
          go_roundw
          case rel => exact ⟨k + 1, _, by omega, by go_num, HV, HO5, HPUT, HX5⟩
          case measure => simp [intOf] <;> omega
        · rw [W1] at HNC
          obtain ⟨j, hj⟩ : ∃ j, k = j + 1 := ⟨k - 1, by omega⟩
          have hk0I : (0 : Int) < (k : Int) := by omega
          have hd1 : decide ((0 : Int) < (k : Int)) = true := decide_eq_true (by omega)
          have hd2 : decide (0 < k) = true := decide_eq_true (by omega)
          have hjl : j < l.length := by rw [HN.out]; omega
          have hjI : (j : Int) < (n : Int) := by omega
          have hj1 : (k : Int) - 1 = (j : Int) := by omega
          have hw1 : IntKind.i64.wrap ((k : Int) - 1) = (j : Int) := by rw [IntKind.wrap_i64]; omega
          have hw2 : IntKind.i64.wrap (j : Int) = (j : Int) := by rw [IntKind.wrap_i64]; omega
          have hup := (HUP.out j hjl hj).symm.trans W2
          have dj := ext_cell HX.out (HC1.out j hjl).1
          have hub : Op.bytesLess (l[j]'hjl).1.toList s.toList = true := by simpa using hup
          generalize (l[j]'hjl).1 = y at *
          clear hup hk0 hj hjl
          have HV := hid WR
          have HQV := hid W5
          subst W5
          clear W1 W2 WR HK
          go_wp2_with (first | (at_lookup; refine wpList_lookup_own_ok_int _ rfl _ _ 140 rfl 3 3 .i64 (int_keyed Tryd.underlying3) Tryd.underlying140 Tryd.underlying3 (fzeroI _) w.heap.size k _ rfl (fmap_keep HO.out ((ext_refl _).new _)) _ _ rfl hkey ?_; rw [HASK.out]; intro cz hatz hwc; clear hatz hwc) | (go_at_call 88; refine (HNC.out _).mono ?_; rintro e w1 ⟨rfl, x1⟩; have X1 := hid (Ext.then (Ext.new (ext_refl wr) (.cells #[.string s, .int .i64 node] 47)) x1); have g0 := ext_cell x1 ((Blk.new wr 47 #[.string s, .int .i64 node]).cell 0); have g1 := ext_cell x1 ((Blk.new wr 47 #[.string s, .int .i64 node]).cell 1); clear x1; have dj1 := ext_cell X1.out dj))
          go_quiet (fail)
          go_wp2_with (at_mapUpdate; refine wpList_mapUpdate_own _ rfl _ _ _ 140 rfl 3 3 (int_keyed Tryd.underlying3) Tryd.underlying140 _ w.heap.size k _ rfl (fmap_keep HO.out (X1.out.draws _)) HKML.out _ _ _ rfl rfl hkey _ [] (plainElem_int Tryd.underlying3 (WalkArith.wf_i64 (by omega))) ?_; intro w5 hown5 hgrow5; have HO5 := hid hown5; have HX5 := hid ((HX.out.then (X1.out.draws _)).grown hgrow5 (HX.out.then (X1.out.draws _)).size (fun j hj => by cases hj; exact Nat.le_refl _)); clear hown5 hgrow5)
          go_roundw
          case rel => exact ⟨k + 1, _, by omega, by go_num, HV, HO5, HPUT, HX5⟩
          case measure => simp [intOf] <;> omega
    · obtain rfl : k = n := by omega
      have HE := hid (show R = 0 by rw [HI.out, List.drop_of_length_le (by rw [HN.out]; exact Nat.le_refl _)]; rfl)
      clear hlt
      go_wp2
      go_returns
      exact ⟨by rw [HE.out]; rfl, HX.out⟩
end Go.Proofs.YtolhifnlahllnaaDoor
