/- Dict: the law Spans: walk (printed by gen_dcj.py). -/
import Derived.Test.YtpheegfanljeeaaDcj
namespace Go.Proofs.Ytpheegfanljeeaa
open Go.RowKit Hy
set_option maxRecDepth 100000 in
set_option maxHeartbeats 6400000 in
theorem dictSpans_walk (l : List (List UInt8)) (A : Option Addr) (n cap : Nat) (lo hi : ByteArray) (x : Int) (w : World) (hn : l.length = n) (hr : Rd w A (txs l)) (hnl : n ≤ 140737488355328) :
    Calls Try.prog 13 #[.slice A n cap, .string lo, .string hi, .int .i64 x] w fun e w' => e = .returned (.bool true) ∧ Ext w w' := by
  have HOF := hid (fun wx (hx : Ext w wx) => dOf_any l A n cap wx hn (hr.keep hx) (fun h => by have := rd_txs_none hr h; omega) hnl)
  have hnI : (n : Int) ≤ 140737488355328 := by omega
  by_cases hm2 : Dct.mny l = true
  · rw [Dct.of_many hm2] at HOF
    clear hn hr hnl hm2
    go_enter Try.func13, Try.ntmps13
    go_wp2_with fail
    refine Calls.mono (HOF.out _ (ext_refl _)) ?_
    rintro e w1 ⟨B1, c1, C1, d1, rfl, _, _, hx⟩
    have Xp := hid hx
    clear hx 
    go_wp2_with fail
    refine Calls.mono (dictBegun_any _) ?_
    rintro e w2 ⟨rfl, hx⟩
    replace Xp := hid (Xp.out.then hx)
    clear hx 
    go_wp2
    go_returns
    exact ⟨rfl, Xp.out⟩
  rw [Bool.not_eq_true] at hm2
  rw [Dct.of_ok hm2] at HOF
  have h64 := (Dct.mny_false hm2).1
  obtain ⟨s1, s2⟩ := Dct.bk_spec l
  have hcl := Dct.cds_len l
  rw [hn] at hcl
  by_cases hx0 : x < 0
  · have hb1 : ((Dct.bk l).length : Int) ≤ 64 := by have := Dct.bk_len l; omega
    generalize Dct.bk l = bk at *
    generalize Dct.cds l = cd at *
    clear hn hr hnl hm2 h64 s1 s2 hcl
    go_enter Try.func13, Try.ntmps13
    go_wp2_with fail
    refine Calls.mono (HOF.out _ (ext_refl _)) ?_
    rintro e w1 ⟨B1, c1, C1, d1, rfl, _, _, hx⟩
    have Xp := hid hx
    clear hx 
    go_wp2_with fail
    refine Calls.mono (dictBegun_any _) ?_
    rintro e w2 ⟨rfl, hx⟩
    replace Xp := hid (Xp.out.then hx)
    clear hx 
    go_wp2
    go_returns
    exact ⟨rfl, Xp.out⟩
  by_cases hx1 : (n : Int) ≤ x
  · have hb1 : ((Dct.bk l).length : Int) ≤ 64 := by have := Dct.bk_len l; omega
    generalize Dct.bk l = bk at *
    generalize Dct.cds l = cd at *
    clear hn hr hnl hm2 h64 s1 s2 hcl
    go_enter Try.func13, Try.ntmps13
    go_wp2_with fail
    refine Calls.mono (HOF.out _ (ext_refl _)) ?_
    rintro e w1 ⟨B1, c1, C1, d1, rfl, _, _, hx⟩
    have Xp := hid hx
    clear hx 
    go_wp2_with fail
    refine Calls.mono (dictBegun_any _) ?_
    rintro e w2 ⟨rfl, hx⟩
    replace Xp := hid (Xp.out.then hx)
    clear hx 
    go_wp2
    go_returns
    exact ⟨rfl, Xp.out⟩
  obtain ⟨i, rfl⟩ : ∃ i : Nat, x = (i : Int) := ⟨x.toNat, by omega⟩
  have hiI : (i : Int) < (n : Int) := by omega
  have hil : i < l.length := by rw [hn]; omega
  have mi := (s2 l[i]).2 (List.getElem_mem hil)
  have hge := Dct.plc_ge s1 (lo := lo.data.toList) mi
  have hle := Dct.plc_ple s1 (hi := hi.data.toList) mi
  have hbi := Dct.plc_le (Dct.bk l) l[i]
  have hblo := Dct.plc_le (Dct.bk l) lo.data.toList
  have hbhi := Dct.ple_le (Dct.bk l) hi.data.toList
  have hbl := Dct.bk_len l
  have hic : i < (Dct.cds l).length := by rw [hcl, ← hn]; exact hil
  have ei : (Dct.cds l)[i] = Dct.plc (Dct.bk l) l[i] := by simp [Dct.cds]
  have HSP := hid (fun B c wx (h : Rd wx B (txs (Dct.bk l))) => by
    have := dSpan_any (Dct.bk l) B (Dct.bk l).length c lo hi wx rfl h (by omega)
    rw [Dct.spn_ok (Dct.bk_chk l hm2), Dct.bk_chk l hm2] at this; exact this)
  have HCC := hid (show ∀ C wx, Rd wx C (u64s (Dct.cds l)) → ∃ b o, C = some ⟨b, o, none⟩ ∧ wx.cell? ⟨b, o + i, none⟩ = some (.int .u64 (Dct.plc (Dct.bk l) l[i] : Nat)) from fun C wx h => by
    obtain ⟨b, o, e, _, c⟩ := h.nums i hic
    exact ⟨b, o, e, by rw [← ei]; exact c i hic⟩)
  obtain ⟨b1, o1, e1, l1, c1⟩ := hr.texts i hil
  cases e1
  have t0 := c1 i hil
  obtain ⟨S0, hS0⟩ : ∃ S : ByteArray, S = ⟨l[i].toArray⟩ := ⟨_, rfl⟩
  rw [← hS0] at t0
  have q0 : S0.toList = l[i] := by rw [hS0, ByteArray.toList_mk]
  have qlo : lo.toList = lo.data.toList := ByteArray.toList_eq lo
  have qhi : hi.toList = hi.data.toList := ByteArray.toList_eq hi
  have g1 := Dct.bless S0.toList lo.toList
  have g2 := Dct.bless S0.toList hi.toList
  have g3 := Dct.bless hi.toList S0.toList
  have g4 : (S0.toList == hi.toList) = decide (l[i] = hi.data.toList) := by rw [q0, qhi, Bool.eq_iff_iff]; simp
  rw [q0, qlo] at g1
  rw [q0, qhi] at g2 g3
  have T0 := hid t0
  have hb1 : ((Dct.bk l).length : Int) ≤ 64 := by omega
  have hi64 : (i : Int) ≤ 64 := by omega
  by_cases h3 : l[i] < lo.data.toList
  · rcases Dct.tot3 l[i] hi.data.toList with h4 | h4 | h4
    · rw [decide_eq_true h3] at g1
      rw [decide_eq_true h4] at g2
      rw [decide_eq_false (Dct.lt_asy h4)] at g3
      rw [decide_eq_false (fun e => by rw [e] at h4; exact Dct.lt_irr _ h4)] at g4
      have hlo : Dct.plc (Dct.bk l) l[i] < Dct.plc (Dct.bk l) lo.data.toList := by apply Nat.lt_of_not_le; intro h; exact hge.1 h h3
      generalize Dct.plc (Dct.bk l) l[i] = pi at *
      generalize Dct.plc (Dct.bk l) lo.data.toList = px at *
      obtain ⟨py, hpy⟩ : ∃ py, py = max px (Dct.ple (Dct.bk l) hi.data.toList) := ⟨_, rfl⟩
      rw [← hpy] at HSP
      have hpi : (pi : Int) ≤ 64 := by omega
      have hpx : (px : Int) ≤ 64 := by omega
      have hpyI : (py : Int) ≤ 64 := by omega
      have hxy : (px : Int) ≤ (py : Int) := by omega
      have wx : IntKind.u64.wrap (px : Int) = (px : Int) := by rw [IntKind.wrap_u64]; omega
      have wy : IntKind.u64.wrap (py : Int) = (py : Int) := by rw [IntKind.wrap_u64]; omega
      have f1 : ¬ (px : Int) ≤ (pi : Int) := by omega
      have f1b : decide ((px : Int) ≤ (pi : Int)) = false := decide_eq_false f1
      have f1c : decide (px ≤ pi) = false := decide_eq_false (by omega)
      rw [← q0, ← qlo] at g1
      rw [← q0, ← qhi] at g2 g3
      have g5 := g4
      rw [qhi] at g5
      generalize Dct.bk l = bk at *
      rw [hcl] at HOF
      generalize Dct.cds l = cd at *
      clear hn hr hnl hm2 h64 s1 s2 hcl hil mi hge hle hbi hblo hbhi hbl hic ei c1 hS0 q0 qlo qhi t0 hx0 hx1 hpy h3 h4 hlo
      go_enter Try.func13, Try.ntmps13
      go_wp2_with fail
      refine Calls.mono (HOF.out _ (ext_refl _)) ?_
      rintro e w1 ⟨B1, c1, C1, d1, rfl, h1, h2, hx⟩
      have Xp := hid hx
      have R1 := hid h1
      have R2 := hid h2
      clear hx h1 h2
      go_wp2_with fail
      refine Calls.mono (dictBegun_any _) ?_
      rintro e w2 ⟨rfl, hx⟩
      replace Xp := hid (Xp.out.then hx)
      replace R1 := hid (R1.out.keep hx)
      replace R2 := hid (R2.out.keep hx)
      clear hx 
      go_wp2_with fail
      refine Calls.mono (HSP.out _ _ _ R1.out) ?_
      rintro e w3 ⟨rfl, hx⟩
      replace Xp := hid (Xp.out.then hx)
      replace R1 := hid (R1.out.keep hx)
      replace R2 := hid (R2.out.keep hx)
      clear hx 
      obtain ⟨b2, o2, e2, d0⟩ := HCC.out _ _ R2.out
      cases e2
      have t0 := ext_cell Xp.out T0.out
      go_wp2_with fail
      go_quiet (fail)
      have XE := hid (Xp.out.draws nq)
      go_wp2
      go_returns
      exact ⟨by simp, XE.out⟩
    · rw [decide_eq_true h3] at g1
      rw [decide_eq_false (by rw [h4]; exact Dct.lt_irr _)] at g2
      rw [decide_eq_false (by rw [h4]; exact Dct.lt_irr _)] at g3
      rw [decide_eq_true h4] at g4
      have hlo : Dct.plc (Dct.bk l) l[i] < Dct.plc (Dct.bk l) lo.data.toList := by apply Nat.lt_of_not_le; intro h; exact hge.1 h h3
      generalize Dct.plc (Dct.bk l) l[i] = pi at *
      generalize Dct.plc (Dct.bk l) lo.data.toList = px at *
      obtain ⟨py, hpy⟩ : ∃ py, py = max px (Dct.ple (Dct.bk l) hi.data.toList) := ⟨_, rfl⟩
      rw [← hpy] at HSP
      have hpi : (pi : Int) ≤ 64 := by omega
      have hpx : (px : Int) ≤ 64 := by omega
      have hpyI : (py : Int) ≤ 64 := by omega
      have hxy : (px : Int) ≤ (py : Int) := by omega
      have wx : IntKind.u64.wrap (px : Int) = (px : Int) := by rw [IntKind.wrap_u64]; omega
      have wy : IntKind.u64.wrap (py : Int) = (py : Int) := by rw [IntKind.wrap_u64]; omega
      have f1 : ¬ (px : Int) ≤ (pi : Int) := by omega
      have f1b : decide ((px : Int) ≤ (pi : Int)) = false := decide_eq_false f1
      have f1c : decide (px ≤ pi) = false := decide_eq_false (by omega)
      rw [← q0, ← qlo] at g1
      rw [← q0, ← qhi] at g2 g3
      have g5 := g4
      rw [qhi] at g5
      generalize Dct.bk l = bk at *
      rw [hcl] at HOF
      generalize Dct.cds l = cd at *
      clear hn hr hnl hm2 h64 s1 s2 hcl hil mi hge hle hbi hblo hbhi hbl hic ei c1 hS0 q0 qlo qhi t0 hx0 hx1 hpy h3 h4 hlo
      go_enter Try.func13, Try.ntmps13
      go_wp2_with fail
      refine Calls.mono (HOF.out _ (ext_refl _)) ?_
      rintro e w1 ⟨B1, c1, C1, d1, rfl, h1, h2, hx⟩
      have Xp := hid hx
      have R1 := hid h1
      have R2 := hid h2
      clear hx h1 h2
      go_wp2_with fail
      refine Calls.mono (dictBegun_any _) ?_
      rintro e w2 ⟨rfl, hx⟩
      replace Xp := hid (Xp.out.then hx)
      replace R1 := hid (R1.out.keep hx)
      replace R2 := hid (R2.out.keep hx)
      clear hx 
      go_wp2_with fail
      refine Calls.mono (HSP.out _ _ _ R1.out) ?_
      rintro e w3 ⟨rfl, hx⟩
      replace Xp := hid (Xp.out.then hx)
      replace R1 := hid (R1.out.keep hx)
      replace R2 := hid (R2.out.keep hx)
      clear hx 
      obtain ⟨b2, o2, e2, d0⟩ := HCC.out _ _ R2.out
      cases e2
      have t0 := ext_cell Xp.out T0.out
      go_wp2_with fail
      go_quiet (fail)
      have XE := hid (Xp.out.draws nq)
      go_wp2
      go_returns
      exact ⟨by simp, XE.out⟩
    · rw [decide_eq_true h3] at g1
      rw [decide_eq_false (Dct.lt_asy h4)] at g2
      rw [decide_eq_true h4] at g3
      rw [decide_eq_false (fun e => by rw [e] at h4; exact Dct.lt_irr _ h4)] at g4
      have hlo : Dct.plc (Dct.bk l) l[i] < Dct.plc (Dct.bk l) lo.data.toList := by apply Nat.lt_of_not_le; intro h; exact hge.1 h h3
      generalize Dct.plc (Dct.bk l) l[i] = pi at *
      generalize Dct.plc (Dct.bk l) lo.data.toList = px at *
      obtain ⟨py, hpy⟩ : ∃ py, py = max px (Dct.ple (Dct.bk l) hi.data.toList) := ⟨_, rfl⟩
      rw [← hpy] at HSP
      have hpi : (pi : Int) ≤ 64 := by omega
      have hpx : (px : Int) ≤ 64 := by omega
      have hpyI : (py : Int) ≤ 64 := by omega
      have hxy : (px : Int) ≤ (py : Int) := by omega
      have wx : IntKind.u64.wrap (px : Int) = (px : Int) := by rw [IntKind.wrap_u64]; omega
      have wy : IntKind.u64.wrap (py : Int) = (py : Int) := by rw [IntKind.wrap_u64]; omega
      have f1 : ¬ (px : Int) ≤ (pi : Int) := by omega
      have f1b : decide ((px : Int) ≤ (pi : Int)) = false := decide_eq_false f1
      have f1c : decide (px ≤ pi) = false := decide_eq_false (by omega)
      rw [← q0, ← qlo] at g1
      rw [← q0, ← qhi] at g2 g3
      have g5 := g4
      rw [qhi] at g5
      generalize Dct.bk l = bk at *
      rw [hcl] at HOF
      generalize Dct.cds l = cd at *
      clear hn hr hnl hm2 h64 s1 s2 hcl hil mi hge hle hbi hblo hbhi hbl hic ei c1 hS0 q0 qlo qhi t0 hx0 hx1 hpy h3 h4 hlo
      go_enter Try.func13, Try.ntmps13
      go_wp2_with fail
      refine Calls.mono (HOF.out _ (ext_refl _)) ?_
      rintro e w1 ⟨B1, c1, C1, d1, rfl, h1, h2, hx⟩
      have Xp := hid hx
      have R1 := hid h1
      have R2 := hid h2
      clear hx h1 h2
      go_wp2_with fail
      refine Calls.mono (dictBegun_any _) ?_
      rintro e w2 ⟨rfl, hx⟩
      replace Xp := hid (Xp.out.then hx)
      replace R1 := hid (R1.out.keep hx)
      replace R2 := hid (R2.out.keep hx)
      clear hx 
      go_wp2_with fail
      refine Calls.mono (HSP.out _ _ _ R1.out) ?_
      rintro e w3 ⟨rfl, hx⟩
      replace Xp := hid (Xp.out.then hx)
      replace R1 := hid (R1.out.keep hx)
      replace R2 := hid (R2.out.keep hx)
      clear hx 
      obtain ⟨b2, o2, e2, d0⟩ := HCC.out _ _ R2.out
      cases e2
      have t0 := ext_cell Xp.out T0.out
      go_wp2_with fail
      go_quiet (fail)
      have XE := hid (Xp.out.draws nq)
      go_wp2
      go_returns
      exact ⟨by simp, XE.out⟩
  · rcases Dct.tot3 l[i] hi.data.toList with h4 | h4 | h4
    · rw [decide_eq_false h3] at g1
      rw [decide_eq_true h4] at g2
      rw [decide_eq_false (Dct.lt_asy h4)] at g3
      rw [decide_eq_false (fun e => by rw [e] at h4; exact Dct.lt_irr _ h4)] at g4
      have hlo : Dct.plc (Dct.bk l) lo.data.toList ≤ Dct.plc (Dct.bk l) l[i] := hge.2 h3
      have hhi : Dct.plc (Dct.bk l) l[i] < Dct.ple (Dct.bk l) hi.data.toList := hle.2 (Dct.lt_asy h4)
      generalize Dct.plc (Dct.bk l) l[i] = pi at *
      generalize Dct.plc (Dct.bk l) lo.data.toList = px at *
      obtain ⟨py, hpy⟩ : ∃ py, py = max px (Dct.ple (Dct.bk l) hi.data.toList) := ⟨_, rfl⟩
      rw [← hpy] at HSP
      have hpi : (pi : Int) ≤ 64 := by omega
      have hpx : (px : Int) ≤ 64 := by omega
      have hpyI : (py : Int) ≤ 64 := by omega
      have hxy : (px : Int) ≤ (py : Int) := by omega
      have wx : IntKind.u64.wrap (px : Int) = (px : Int) := by rw [IntKind.wrap_u64]; omega
      have wy : IntKind.u64.wrap (py : Int) = (py : Int) := by rw [IntKind.wrap_u64]; omega
      have f1 : (px : Int) ≤ (pi : Int) := by omega
      have f2 : (pi : Int) < (py : Int) := by omega
      rw [← q0, ← qlo] at g1
      rw [← q0, ← qhi] at g2 g3
      have g5 := g4
      rw [qhi] at g5
      generalize Dct.bk l = bk at *
      rw [hcl] at HOF
      generalize Dct.cds l = cd at *
      clear hn hr hnl hm2 h64 s1 s2 hcl hil mi hge hle hbi hblo hbhi hbl hic ei c1 hS0 q0 qlo qhi t0 hx0 hx1 hpy h3 h4 hlo hhi
      go_enter Try.func13, Try.ntmps13
      go_wp2_with fail
      refine Calls.mono (HOF.out _ (ext_refl _)) ?_
      rintro e w1 ⟨B1, c1, C1, d1, rfl, h1, h2, hx⟩
      have Xp := hid hx
      have R1 := hid h1
      have R2 := hid h2
      clear hx h1 h2
      go_wp2_with fail
      refine Calls.mono (dictBegun_any _) ?_
      rintro e w2 ⟨rfl, hx⟩
      replace Xp := hid (Xp.out.then hx)
      replace R1 := hid (R1.out.keep hx)
      replace R2 := hid (R2.out.keep hx)
      clear hx 
      go_wp2_with fail
      refine Calls.mono (HSP.out _ _ _ R1.out) ?_
      rintro e w3 ⟨rfl, hx⟩
      replace Xp := hid (Xp.out.then hx)
      replace R1 := hid (R1.out.keep hx)
      replace R2 := hid (R2.out.keep hx)
      clear hx 
      obtain ⟨b2, o2, e2, d0⟩ := HCC.out _ _ R2.out
      cases e2
      have t0 := ext_cell Xp.out T0.out
      go_wp2_with fail
      go_quiet (fail)
      have XE := hid (Xp.out.draws nq)
      go_wp2
      go_returns
      exact ⟨by simp, XE.out⟩
    · rw [decide_eq_false h3] at g1
      rw [decide_eq_false (by rw [h4]; exact Dct.lt_irr _)] at g2
      rw [decide_eq_false (by rw [h4]; exact Dct.lt_irr _)] at g3
      rw [decide_eq_true h4] at g4
      have hlo : Dct.plc (Dct.bk l) lo.data.toList ≤ Dct.plc (Dct.bk l) l[i] := hge.2 h3
      have hhi : Dct.plc (Dct.bk l) l[i] < Dct.ple (Dct.bk l) hi.data.toList := hle.2 (by rw [h4]; exact Dct.lt_irr _)
      generalize Dct.plc (Dct.bk l) l[i] = pi at *
      generalize Dct.plc (Dct.bk l) lo.data.toList = px at *
      obtain ⟨py, hpy⟩ : ∃ py, py = max px (Dct.ple (Dct.bk l) hi.data.toList) := ⟨_, rfl⟩
      rw [← hpy] at HSP
      have hpi : (pi : Int) ≤ 64 := by omega
      have hpx : (px : Int) ≤ 64 := by omega
      have hpyI : (py : Int) ≤ 64 := by omega
      have hxy : (px : Int) ≤ (py : Int) := by omega
      have wx : IntKind.u64.wrap (px : Int) = (px : Int) := by rw [IntKind.wrap_u64]; omega
      have wy : IntKind.u64.wrap (py : Int) = (py : Int) := by rw [IntKind.wrap_u64]; omega
      have f1 : (px : Int) ≤ (pi : Int) := by omega
      have f2 : (pi : Int) < (py : Int) := by omega
      rw [← q0, ← qlo] at g1
      rw [← q0, ← qhi] at g2 g3
      have g5 := g4
      rw [qhi] at g5
      generalize Dct.bk l = bk at *
      rw [hcl] at HOF
      generalize Dct.cds l = cd at *
      clear hn hr hnl hm2 h64 s1 s2 hcl hil mi hge hle hbi hblo hbhi hbl hic ei c1 hS0 q0 qlo qhi t0 hx0 hx1 hpy h3 h4 hlo hhi
      go_enter Try.func13, Try.ntmps13
      go_wp2_with fail
      refine Calls.mono (HOF.out _ (ext_refl _)) ?_
      rintro e w1 ⟨B1, c1, C1, d1, rfl, h1, h2, hx⟩
      have Xp := hid hx
      have R1 := hid h1
      have R2 := hid h2
      clear hx h1 h2
      go_wp2_with fail
      refine Calls.mono (dictBegun_any _) ?_
      rintro e w2 ⟨rfl, hx⟩
      replace Xp := hid (Xp.out.then hx)
      replace R1 := hid (R1.out.keep hx)
      replace R2 := hid (R2.out.keep hx)
      clear hx 
      go_wp2_with fail
      refine Calls.mono (HSP.out _ _ _ R1.out) ?_
      rintro e w3 ⟨rfl, hx⟩
      replace Xp := hid (Xp.out.then hx)
      replace R1 := hid (R1.out.keep hx)
      replace R2 := hid (R2.out.keep hx)
      clear hx 
      obtain ⟨b2, o2, e2, d0⟩ := HCC.out _ _ R2.out
      cases e2
      have t0 := ext_cell Xp.out T0.out
      go_wp2_with fail
      go_quiet (fail)
      have XE := hid (Xp.out.draws nq)
      go_wp2
      go_returns
      exact ⟨by simp, XE.out⟩
    · rw [decide_eq_false h3] at g1
      rw [decide_eq_false (Dct.lt_asy h4)] at g2
      rw [decide_eq_true h4] at g3
      rw [decide_eq_false (fun e => by rw [e] at h4; exact Dct.lt_irr _ h4)] at g4
      have hlo : Dct.plc (Dct.bk l) lo.data.toList ≤ Dct.plc (Dct.bk l) l[i] := hge.2 h3
      have hhi : Dct.ple (Dct.bk l) hi.data.toList ≤ Dct.plc (Dct.bk l) l[i] := by apply Nat.le_of_not_lt; intro h; exact hle.1 h h4
      generalize Dct.plc (Dct.bk l) l[i] = pi at *
      generalize Dct.plc (Dct.bk l) lo.data.toList = px at *
      obtain ⟨py, hpy⟩ : ∃ py, py = max px (Dct.ple (Dct.bk l) hi.data.toList) := ⟨_, rfl⟩
      rw [← hpy] at HSP
      have hpi : (pi : Int) ≤ 64 := by omega
      have hpx : (px : Int) ≤ 64 := by omega
      have hpyI : (py : Int) ≤ 64 := by omega
      have hxy : (px : Int) ≤ (py : Int) := by omega
      have wx : IntKind.u64.wrap (px : Int) = (px : Int) := by rw [IntKind.wrap_u64]; omega
      have wy : IntKind.u64.wrap (py : Int) = (py : Int) := by rw [IntKind.wrap_u64]; omega
      have f1 : (px : Int) ≤ (pi : Int) := by omega
      have f2 : ¬ (pi : Int) < (py : Int) := by omega
      have f2b : decide ((pi : Int) < (py : Int)) = false := decide_eq_false f2
      have f2c : decide (pi < py) = false := decide_eq_false (by omega)
      rw [← q0, ← qlo] at g1
      rw [← q0, ← qhi] at g2 g3
      have g5 := g4
      rw [qhi] at g5
      generalize Dct.bk l = bk at *
      rw [hcl] at HOF
      generalize Dct.cds l = cd at *
      clear hn hr hnl hm2 h64 s1 s2 hcl hil mi hge hle hbi hblo hbhi hbl hic ei c1 hS0 q0 qlo qhi t0 hx0 hx1 hpy h3 h4 hlo hhi
      go_enter Try.func13, Try.ntmps13
      go_wp2_with fail
      refine Calls.mono (HOF.out _ (ext_refl _)) ?_
      rintro e w1 ⟨B1, c1, C1, d1, rfl, h1, h2, hx⟩
      have Xp := hid hx
      have R1 := hid h1
      have R2 := hid h2
      clear hx h1 h2
      go_wp2_with fail
      refine Calls.mono (dictBegun_any _) ?_
      rintro e w2 ⟨rfl, hx⟩
      replace Xp := hid (Xp.out.then hx)
      replace R1 := hid (R1.out.keep hx)
      replace R2 := hid (R2.out.keep hx)
      clear hx 
      go_wp2_with fail
      refine Calls.mono (HSP.out _ _ _ R1.out) ?_
      rintro e w3 ⟨rfl, hx⟩
      replace Xp := hid (Xp.out.then hx)
      replace R1 := hid (R1.out.keep hx)
      replace R2 := hid (R2.out.keep hx)
      clear hx 
      obtain ⟨b2, o2, e2, d0⟩ := HCC.out _ _ R2.out
      cases e2
      have t0 := ext_cell Xp.out T0.out
      go_wp2_with fail
      go_quiet (fail)
      have XE := hid (Xp.out.draws nq)
      go_wp2
      go_returns
      exact ⟨by simp, XE.out⟩
end Go.Proofs.Ytpheegfanljeeaa
