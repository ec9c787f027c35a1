/- Dict: the laws Order, Spans: walks (printed by gen_dcj.py). -/
import Derived.Test.YtpheegfanljeeaaDch
namespace Hy
open Go Go.RowKit
/-- a call that answers so in each later world, in a region that draws its order -/
theorem givesAt_quiet {P : Program} {f : FuncId} {args : Array Value} {v : Value} {w : World} (h : ∀ wx, Ext w wx → Calls P f args wx fun e w' => e = .returned v ∧ Ext wx w') (d : Nat) (os : Array Obj) :
    Calls P f args (Go.Sort.grow (redrawn w d) os) fun e w'' => e = .returned v ∧ ∃ p : Regrown, w'' = Go.Sort.grow (redrawn w p.d) p.os := Calls.regrown_of (h _ (ext_regrown w ⟨d, os⟩))
end Hy
namespace Hy.Dct
open Go
theorem plc_ge {b : List T} (hb : b.Pairwise (· < ·)) {s lo : T} (hs : s ∈ b) : plc b lo ≤ plc b s ↔ ¬ s < lo := by
  obtain ⟨i, hi, rfl⟩ := List.mem_iff_getElem.1 hs
  rw [plc_at hb hi, plc_eq]
  constructor
  · intro h h2
    have h3 : i + 1 ≤ b.countP fun x => decide (x < lo) := by
      have h4 : (b.take (i + 1)).countP (fun x => decide (x < lo)) = i + 1 := by
        rw [List.countP_eq_length.2]
        · rw [List.length_take]; omega
        · intro x hx
          obtain ⟨k, hk, rfl⟩ := List.mem_iff_getElem.1 hx
          rw [List.length_take] at hk
          rw [List.getElem_take]
          exact decide_eq_true (up_lt hb (show k ≤ i by omega) hi h2)
      rw [← h4]
      exact (List.take_sublist _ _).countP_le
    omega
  · intro h
    have h4 : (b.drop i).countP (fun x => decide (x < lo)) = 0 := List.countP_eq_zero.2 fun x hx => by
      obtain ⟨k, hk, rfl⟩ := List.mem_iff_getElem.1 hx
      rw [List.length_drop] at hk
      rw [List.getElem_drop]
      have := up_ge hb (show i ≤ i + k by omega) (by omega) h
      simpa using this
    have h5 : (b.take i).countP (fun x => decide (x < lo)) ≤ i := by
      refine Nat.le_trans List.countP_le_length ?_
      rw [List.length_take]; omega
    have h6 : b.countP (fun x => decide (x < lo)) = (b.take i).countP (fun x => decide (x < lo)) + (b.drop i).countP (fun x => decide (x < lo)) := by
      rw [← List.countP_append, List.take_append_drop]
    omega
theorem plc_ple {b : List T} (hb : b.Pairwise (· < ·)) {s hi : T} (hs : s ∈ b) : plc b s < ple b hi ↔ ¬ hi < s := by
  obtain ⟨i, hil, rfl⟩ := List.mem_iff_getElem.1 hs
  rw [plc_at hb hil]
  unfold ple
  constructor
  · intro h h2
    have h4 : (b.drop i).countP (fun x => decide (x ≤ hi)) = 0 := List.countP_eq_zero.2 fun x hx => by
      obtain ⟨k, hk, rfl⟩ := List.mem_iff_getElem.1 hx
      rw [List.length_drop] at hk
      rw [List.getElem_drop]
      have := up_gt hb (show i ≤ i + k by omega) (by omega) h2
      have h3 := List.not_le.2 this
      simpa using h3
    have h5 : (b.take i).countP (fun x => decide (x ≤ hi)) ≤ i := by
      refine Nat.le_trans List.countP_le_length ?_
      rw [List.length_take]; omega
    have h6 : b.countP (fun x => decide (x ≤ hi)) = (b.take i).countP (fun x => decide (x ≤ hi)) + (b.drop i).countP (fun x => decide (x ≤ hi)) := by
      rw [← List.countP_append, List.take_append_drop]
    omega
  · intro h
    have h4 : (b.take (i + 1)).countP (fun x => decide (x ≤ hi)) = i + 1 := by
      rw [List.countP_eq_length.2]
      · rw [List.length_take]; omega
      · intro x hx
        obtain ⟨k, hk, rfl⟩ := List.mem_iff_getElem.1 hx
        rw [List.length_take] at hk
        rw [List.getElem_take]
        exact decide_eq_true (List.not_lt.1 (up_ngt hb (show k ≤ i by omega) hil h))
    have h5 : (b.take (i + 1)).countP (fun x => decide (x ≤ hi)) ≤ b.countP fun x => decide (x ≤ hi) := (List.take_sublist _ _).countP_le
    omega
end Hy.Dct
namespace Go.Proofs.Ytpheegfanljeeaa
open Go.RowKit Hy
set_option maxRecDepth 100000 in
set_option maxHeartbeats 6400000 in
theorem dictOrder_walk (l : List (List UInt8)) (A : Option Addr) (n cap : Nat) (x y : Int) (w : World) (hn : l.length = n) (hr : Rd w A (txs l)) (hnl : n ≤ 140737488355328) :
    Calls Try.prog 11 #[.slice A n cap, .int .i64 x, .int .i64 y] w fun e w' => e = .returned (.bool true) ∧ Ext w w' := by
  have HOF := hid (fun wx (hx : Ext w wx) => dOf_any l A n cap wx hn (hr.keep hx) (fun h => by have := rd_txs_none hr h; omega) hnl)
  have hnI : (n : Int) ≤ 140737488355328 := by omega
  by_cases hm2 : Dct.mny l = true
  · rw [Dct.of_many hm2] at HOF
    clear hn hr hnl hm2
    go_enter Try.func11, Try.ntmps11
    go_wp2_with fail
    refine Calls.mono (HOF.out _ (ext_refl _)) ?_
    rintro e w1 ⟨B1, c1, C1, d1, rfl, _, _, hx⟩
    have Xp := hid hx
    clear hx 
    go_wp2_with fail
    refine Calls.mono (dictBegun_any _) ?_
    rintro e w2 ⟨rfl, hx⟩
    replace Xp := hid (Xp.out.then hx)
    clear hx 
    go_wp2
    go_returns
    exact ⟨rfl, Xp.out⟩
  rw [Bool.not_eq_true] at hm2
  rw [Dct.of_ok hm2] at HOF
  have h64 := (Dct.mny_false hm2).1
  obtain ⟨s1, s2⟩ := Dct.bk_spec l
  have hcl := Dct.cds_len l
  rw [hn] at hcl
  by_cases hx0 : x < 0
  · have hb1 : ((Dct.bk l).length : Int) ≤ 64 := by have := Dct.bk_len l; omega
    generalize Dct.bk l = bk at *
    generalize Dct.cds l = cd at *
    clear hn hr hnl hm2 h64 s1 s2 hcl
    go_enter Try.func11, Try.ntmps11
    go_wp2_with fail
    refine Calls.mono (HOF.out _ (ext_refl _)) ?_
    rintro e w1 ⟨B1, c1, C1, d1, rfl, _, _, hx⟩
    have Xp := hid hx
    clear hx 
    go_wp2_with fail
    refine Calls.mono (dictBegun_any _) ?_
    rintro e w2 ⟨rfl, hx⟩
    replace Xp := hid (Xp.out.then hx)
    clear hx 
    go_wp2
    go_returns
    exact ⟨rfl, Xp.out⟩
  by_cases hx1 : (n : Int) ≤ x
  · have hb1 : ((Dct.bk l).length : Int) ≤ 64 := by have := Dct.bk_len l; omega
    generalize Dct.bk l = bk at *
    generalize Dct.cds l = cd at *
    clear hn hr hnl hm2 h64 s1 s2 hcl
    go_enter Try.func11, Try.ntmps11
    go_wp2_with fail
    refine Calls.mono (HOF.out _ (ext_refl _)) ?_
    rintro e w1 ⟨B1, c1, C1, d1, rfl, _, _, hx⟩
    have Xp := hid hx
    clear hx 
    go_wp2_with fail
    refine Calls.mono (dictBegun_any _) ?_
    rintro e w2 ⟨rfl, hx⟩
    replace Xp := hid (Xp.out.then hx)
    clear hx 
    go_wp2
    go_returns
    exact ⟨rfl, Xp.out⟩
  by_cases hy0 : y < 0
  · have hb1 : ((Dct.bk l).length : Int) ≤ 64 := by have := Dct.bk_len l; omega
    generalize Dct.bk l = bk at *
    generalize Dct.cds l = cd at *
    clear hn hr hnl hm2 h64 s1 s2 hcl
    go_enter Try.func11, Try.ntmps11
    go_wp2_with fail
    refine Calls.mono (HOF.out _ (ext_refl _)) ?_
    rintro e w1 ⟨B1, c1, C1, d1, rfl, _, _, hx⟩
    have Xp := hid hx
    clear hx 
    go_wp2_with fail
    refine Calls.mono (dictBegun_any _) ?_
    rintro e w2 ⟨rfl, hx⟩
    replace Xp := hid (Xp.out.then hx)
    clear hx 
    go_wp2
    go_returns
    exact ⟨rfl, Xp.out⟩
  by_cases hy1 : (n : Int) ≤ y
  · have hb1 : ((Dct.bk l).length : Int) ≤ 64 := by have := Dct.bk_len l; omega
    generalize Dct.bk l = bk at *
    generalize Dct.cds l = cd at *
    clear hn hr hnl hm2 h64 s1 s2 hcl
    go_enter Try.func11, Try.ntmps11
    go_wp2_with fail
    refine Calls.mono (HOF.out _ (ext_refl _)) ?_
    rintro e w1 ⟨B1, c1, C1, d1, rfl, _, _, hx⟩
    have Xp := hid hx
    clear hx 
    go_wp2_with fail
    refine Calls.mono (dictBegun_any _) ?_
    rintro e w2 ⟨rfl, hx⟩
    replace Xp := hid (Xp.out.then hx)
    clear hx 
    go_wp2
    go_returns
    exact ⟨rfl, Xp.out⟩
  obtain ⟨i, rfl⟩ : ∃ i : Nat, x = (i : Int) := ⟨x.toNat, by omega⟩
  obtain ⟨k, rfl⟩ : ∃ k : Nat, y = (k : Int) := ⟨y.toNat, by omega⟩
  have hiI : (i : Int) < (n : Int) := by omega
  have hkI : (k : Int) < (n : Int) := by omega
  have hil : i < l.length := by rw [hn]; omega
  have hkl : k < l.length := by rw [hn]; omega
  have mi := (s2 l[i]).2 (List.getElem_mem hil)
  have mk := (s2 l[k]).2 (List.getElem_mem hkl)
  have hmono := Dct.plc_mono s1 mi mk
  have hmono2 := Dct.plc_mono s1 mk mi
  have hinj := Dct.plc_inj s1 mi mk
  have hbi := Dct.plc_le (Dct.bk l) l[i]
  have hbk := Dct.plc_le (Dct.bk l) l[k]
  have hbl := Dct.bk_len l
  have hic : i < (Dct.cds l).length := by rw [hcl, ← hn]; exact hil
  have hkc : k < (Dct.cds l).length := by rw [hcl, ← hn]; exact hkl
  have ei : (Dct.cds l)[i] = Dct.plc (Dct.bk l) l[i] := by simp [Dct.cds]
  have ek : (Dct.cds l)[k] = Dct.plc (Dct.bk l) l[k] := by simp [Dct.cds]
  have HCH := hid (fun B c wx (h : Rd wx B (txs (Dct.bk l))) => by
    have := dCheck_any (Dct.bk l) B (Dct.bk l).length c wx rfl h (by omega)
    rw [Dct.bk_chk l hm2] at this; exact this)
  have HEI := hid ei
  have HEK := hid ek
  have HCC := hid (show ∀ C wx, Rd wx C (u64s (Dct.cds l)) → ∃ b o, C = some ⟨b, o, none⟩ ∧ wx.cell? ⟨b, o + i, none⟩ = some (.int .u64 (Dct.plc (Dct.bk l) l[i] : Nat)) ∧ wx.cell? ⟨b, o + k, none⟩ = some (.int .u64 (Dct.plc (Dct.bk l) l[k] : Nat)) from fun C wx h => by
    obtain ⟨b, o, e, _, c⟩ := h.nums i hic
    exact ⟨b, o, e, by rw [← ei]; exact c i hic, by rw [← ek]; exact c k hkc⟩)
  obtain ⟨b1, o1, e1, l1, c1⟩ := hr.texts i hil
  cases e1
  have t0 := c1 i hil
  have t1 := c1 k hkl
  obtain ⟨S0, hS0⟩ : ∃ S : ByteArray, S = ⟨l[i].toArray⟩ := ⟨_, rfl⟩
  obtain ⟨S1, hS1⟩ : ∃ S : ByteArray, S = ⟨l[k].toArray⟩ := ⟨_, rfl⟩
  rw [← hS0] at t0
  rw [← hS1] at t1
  have q0 : S0.toList = l[i] := by rw [hS0, ByteArray.toList_mk]
  have q1 : S1.toList = l[k] := by rw [hS1, ByteArray.toList_mk]
  have g1 := Dct.bless S0.toList S1.toList
  have g2 : (S0.toList == S1.toList) = decide (l[i] = l[k]) := by rw [q0, q1, Bool.eq_iff_iff]; simp
  rw [q0, q1] at g1
  have T0 := hid t0
  have T1 := hid t1
  have hb1 : ((Dct.bk l).length : Int) ≤ 64 := by omega
  have hi64 : (i : Int) ≤ 64 := by omega
  have hk64 : (k : Int) ≤ 64 := by omega
  have hpi : (Dct.plc (Dct.bk l) l[i] : Int) ≤ 64 := by omega
  have hpk : (Dct.plc (Dct.bk l) l[k] : Int) ≤ 64 := by omega
  have hcI : ((Dct.cds l).length : Int) = (n : Int) := by omega
  rcases Dct.tot3 l[i] l[k] with h3 | h3 | h3
  · rw [decide_eq_true h3] at g1
    rw [decide_eq_false (fun e => by rw [e] at h3; exact Dct.lt_irr _ h3)] at g2
    have f1 : (Dct.plc (Dct.bk l) l[i] : Int) < (Dct.plc (Dct.bk l) l[k] : Int) := by have := hmono.2 h3; omega
    have f2 : ((Dct.plc (Dct.bk l) l[i] : Int) == (Dct.plc (Dct.bk l) l[k] : Int)) = false := by rw [beq_eq_false_iff_ne]; omega
    generalize Dct.plc (Dct.bk l) l[i] = pi at *
    generalize Dct.plc (Dct.bk l) l[k] = pk at *
    rw [← q0, ← q1] at g1
    generalize Dct.bk l = bk at *
    rw [hcl] at HOF
    generalize Dct.cds l = cd at *
    clear hn hr hnl hm2 h64 s1 s2 hcl hil hkl mi mk hmono hmono2 hinj hbi hbk hbl hic hkc ei ek HEI HEK c1 hS0 hS1 q0 q1 t0 t1 hx0 hx1 hy0 hy1 h3
    go_enter Try.func11, Try.ntmps11
    go_wp2_with fail
    refine Calls.mono (HOF.out _ (ext_refl _)) ?_
    rintro e w1 ⟨B1, c1, C1, d1, rfl, h1, h2, hx⟩
    have Xp := hid hx
    have R1 := hid h1
    have R2 := hid h2
    clear hx h1 h2
    go_wp2_with fail
    refine Calls.mono (dictBegun_any _) ?_
    rintro e w2 ⟨rfl, hx⟩
    replace Xp := hid (Xp.out.then hx)
    replace R1 := hid (R1.out.keep hx)
    replace R2 := hid (R2.out.keep hx)
    clear hx 
    obtain ⟨b2, o2, e2, d0, d1⟩ := HCC.out _ _ R2.out
    cases e2
    have t0 := ext_cell Xp.out T0.out
    have t1 := ext_cell Xp.out T1.out
    have d0r := cell_regrown d0
    have d1r := cell_regrown d1
    have t0r := cell_regrown t0
    have t1r := cell_regrown t1
    have HG := hid (fun wx (hx : Ext w2 wx) => HCH.out _ c1 wx (R1.out.keep hx))
    go_wp2_with fail
    refine wp_region_quiet_below (by kernel_rfl) (by kernel_rfl) ?_
    repeat (go_big_quiet_step ((go_at_call 32; exact givesAt_quiet HG.out _ _)))
    refine wpQuiet_nil ?_
    intro w9 hw9
    obtain ⟨p, rfl⟩ := hw9
    have XE := hid (Xp.out.then (ext_regrown _ p))
    go_wp2
    go_returns
    exact ⟨by simp, XE.out⟩
  · rw [decide_eq_false (by rw [h3]; exact Dct.lt_irr _)] at g1
    rw [decide_eq_true h3] at g2
    have f1 : ¬ (Dct.plc (Dct.bk l) l[i] : Int) < (Dct.plc (Dct.bk l) l[k] : Int) := by have := hinj.2 h3; omega
    have f1a : decide ((Dct.plc (Dct.bk l) l[i] : Int) < (Dct.plc (Dct.bk l) l[k] : Int)) = false := decide_eq_false f1
    have f1b : decide (Dct.plc (Dct.bk l) l[i] < Dct.plc (Dct.bk l) l[k]) = false := decide_eq_false (by have := hinj.2 h3; omega)
    have f2 : ((Dct.plc (Dct.bk l) l[i] : Int) == (Dct.plc (Dct.bk l) l[k] : Int)) = true := by rw [beq_iff_eq]; have := hinj.2 h3; omega
    generalize Dct.plc (Dct.bk l) l[i] = pi at *
    generalize Dct.plc (Dct.bk l) l[k] = pk at *
    rw [← q0, ← q1] at g1
    generalize Dct.bk l = bk at *
    rw [hcl] at HOF
    generalize Dct.cds l = cd at *
    clear hn hr hnl hm2 h64 s1 s2 hcl hil hkl mi mk hmono hmono2 hinj hbi hbk hbl hic hkc ei ek HEI HEK c1 hS0 hS1 q0 q1 t0 t1 hx0 hx1 hy0 hy1 h3
    go_enter Try.func11, Try.ntmps11
    go_wp2_with fail
    refine Calls.mono (HOF.out _ (ext_refl _)) ?_
    rintro e w1 ⟨B1, c1, C1, d1, rfl, h1, h2, hx⟩
    have Xp := hid hx
    have R1 := hid h1
    have R2 := hid h2
    clear hx h1 h2
    go_wp2_with fail
    refine Calls.mono (dictBegun_any _) ?_
    rintro e w2 ⟨rfl, hx⟩
    replace Xp := hid (Xp.out.then hx)
    replace R1 := hid (R1.out.keep hx)
    replace R2 := hid (R2.out.keep hx)
    clear hx 
    obtain ⟨b2, o2, e2, d0, d1⟩ := HCC.out _ _ R2.out
    cases e2
    have t0 := ext_cell Xp.out T0.out
    have t1 := ext_cell Xp.out T1.out
    have d0r := cell_regrown d0
    have d1r := cell_regrown d1
    have t0r := cell_regrown t0
    have t1r := cell_regrown t1
    have HG := hid (fun wx (hx : Ext w2 wx) => HCH.out _ c1 wx (R1.out.keep hx))
    go_wp2_with fail
    refine wp_region_quiet_below (by kernel_rfl) (by kernel_rfl) ?_
    repeat (go_big_quiet_step ((go_at_call 32; exact givesAt_quiet HG.out _ _)))
    refine wpQuiet_nil ?_
    intro w9 hw9
    obtain ⟨p, rfl⟩ := hw9
    have XE := hid (Xp.out.then (ext_regrown _ p))
    go_wp2
    go_returns
    exact ⟨by simp, XE.out⟩
  · rw [decide_eq_false (Dct.lt_asy h3)] at g1
    rw [decide_eq_false (fun e => by rw [e] at h3; exact Dct.lt_irr _ h3)] at g2
    have f1 : ¬ (Dct.plc (Dct.bk l) l[i] : Int) < (Dct.plc (Dct.bk l) l[k] : Int) := by have := hmono2.2 h3; omega
    have f1a : decide ((Dct.plc (Dct.bk l) l[i] : Int) < (Dct.plc (Dct.bk l) l[k] : Int)) = false := decide_eq_false f1
    have f1b : decide (Dct.plc (Dct.bk l) l[i] < Dct.plc (Dct.bk l) l[k]) = false := decide_eq_false (by have := hmono2.2 h3; omega)
    have f2 : ((Dct.plc (Dct.bk l) l[i] : Int) == (Dct.plc (Dct.bk l) l[k] : Int)) = false := by rw [beq_eq_false_iff_ne]; have := hmono2.2 h3; omega
    generalize Dct.plc (Dct.bk l) l[i] = pi at *
    generalize Dct.plc (Dct.bk l) l[k] = pk at *
    rw [← q0, ← q1] at g1
    generalize Dct.bk l = bk at *
    rw [hcl] at HOF
    generalize Dct.cds l = cd at *
    clear hn hr hnl hm2 h64 s1 s2 hcl hil hkl mi mk hmono hmono2 hinj hbi hbk hbl hic hkc ei ek HEI HEK c1 hS0 hS1 q0 q1 t0 t1 hx0 hx1 hy0 hy1 h3
    go_enter Try.func11, Try.ntmps11
    go_wp2_with fail
    refine Calls.mono (HOF.out _ (ext_refl _)) ?_
    rintro e w1 ⟨B1, c1, C1, d1, rfl, h1, h2, hx⟩
    have Xp := hid hx
    have R1 := hid h1
    have R2 := hid h2
    clear hx h1 h2
    go_wp2_with fail
    refine Calls.mono (dictBegun_any _) ?_
    rintro e w2 ⟨rfl, hx⟩
    replace Xp := hid (Xp.out.then hx)
    replace R1 := hid (R1.out.keep hx)
    replace R2 := hid (R2.out.keep hx)
    clear hx 
    obtain ⟨b2, o2, e2, d0, d1⟩ := HCC.out _ _ R2.out
    cases e2
    have t0 := ext_cell Xp.out T0.out
    have t1 := ext_cell Xp.out T1.out
    have d0r := cell_regrown d0
    have d1r := cell_regrown d1
    have t0r := cell_regrown t0
    have t1r := cell_regrown t1
    have HG := hid (fun wx (hx : Ext w2 wx) => HCH.out _ c1 wx (R1.out.keep hx))
    go_wp2_with fail
    refine wp_region_quiet_below (by kernel_rfl) (by kernel_rfl) ?_
    repeat (go_big_quiet_step ((go_at_call 32; exact givesAt_quiet HG.out _ _)))
    refine wpQuiet_nil ?_
    intro w9 hw9
    obtain ⟨p, rfl⟩ := hw9
    have XE := hid (Xp.out.then (ext_regrown _ p))
    go_wp2
    go_returns
    exact ⟨by simp, XE.out⟩
end Go.Proofs.Ytpheegfanljeeaa
