/- The law RankParts: walk, one theorem a way (printed by gen_rparts.py). -/
import Derived.Test.YtikdmnedbfpkeaaDoorRkm
import Derived.Test.YtikdmnedbfpkeaaDoorNil
namespace Hy.Mrk
open Go
theorem rankV_out (l : List Bool) (k : Int) (h : k < 0 ∨ (l.length : Int) < k) : rankV l k = (0, 3) := by unfold rankV; rw [if_pos h]
theorem rankV_in (l : List Bool) (k : Nat) (h : k ≤ l.length) : rankV l (k : Int) = ((((l.take k).count true : Nat) : Int), 0) := by
  unfold rankV; rw [if_neg (by omega), Int.toNat_natCast]
theorem take_l (a b : List Bool) (k : Nat) (h : k ≤ a.length) : (a ++ b).take k = a.take k := by rw [List.take_append_of_le_length h]
theorem count_r (a b : List Bool) (k : Nat) (h : a.length ≤ k) : ((a ++ b).take k).count true = (a.take a.length).count true + (b.take (k - a.length)).count true := by
  rw [List.take_append, List.count_append, List.take_of_length_le h, List.take_length]
theorem count_at (l : List Bool) (k : Nat) (x : Bool) (h : l[k]? = some x) : (l.take (k + 1)).count true = (l.take k).count true + if x then 1 else 0 := by
  obtain ⟨h1, rfl⟩ := List.getElem?_eq_some_iff.1 h
  exact count_take l k h1
theorem bool_at {w : World} {A : Option Addr} {l : List Bool} (h : Rd w A (bls l)) (k : Nat) (x : Bool) (hx : l[k]? = some x) : ∃ b o, A = some ⟨b, o, none⟩ ∧ b < w.heap.size ∧ w.cell? ⟨b, o + k, none⟩ = some (.bool x) := by
  obtain ⟨h1, rfl⟩ := List.getElem?_eq_some_iff.1 hx
  obtain ⟨b, o, e, l1, c1⟩ := h.bool (by omega)
  exact ⟨b, o, e, l1, c1 k h1⟩
end Hy.Mrk
namespace Go.Proofs.YtikdmnedbfpkeaaDoor
open Go.RowKit Hy
set_option maxHeartbeats 1600000 in
theorem rankParts_out (a b : List Bool) (k : Int) (A B : Option Addr) (n m ca cb : Nat) (w : World) (hn : a.length = n) (hm : b.length = m) (ra : Rd w A (bls a)) (rb : Rd w B (bls b)) (hca : n ≤ ca) (hcb : m ≤ cb) (hnl : n ≤ 1048576) (hml : m ≤ 1048576) (hT : TabOk w) (hk : k < 0 ∨ ((n + m : Nat) : Int) < k) :
    Calls Tryd.prog 5 #[.slice A n ca, .slice B m cb, .int .i64 k] w fun e w' => e = .returned (.bool true) ∧ Ext w w' := by
  have SA := hid (fun (wx : World) (hx : Ext w wx) => Src.rd (P := Tryd.prog) (size := 1) (w := wx) Tryd.underlying22 A n ca (bls a) (by rw [bls_len, hn, Nat.mul_one]) (ra.keep hx) (bls_one _) (fun h => ra.nil_of (by rw [bls_len, hn]) h))
  have SB := hid (fun (wx : World) (hx : Ext w wx) => Src.rd (P := Tryd.prog) (size := 1) (w := wx) Tryd.underlying22 B m cb (bls b) (by rw [bls_len, hm, Nat.mul_one]) (rb.keep hx) (bls_one _) (fun h => rb.nil_of (by rw [bls_len, hm]) h))
  have FB := hid (fun wx (hx : Ext w wx) => rankBegun_any wx (hT.keep hx))
  have FC := hid (fun wx C c (x : Int) (h : Rd wx C (bls (a ++ b))) (hc : n + m ≤ c) => rank_all (a ++ b) x C (n + m) c wx (by rw [List.length_append, hn, hm]) h hc (by omega))
  have FA := hid (fun wx (x : Int) (hx : Ext w wx) => rank_all a x A n ca wx hn (ra.keep hx) hca (by omega))
  have FD := hid (fun wx (x : Int) (hx : Ext w wx) => rank_all b x B m cb wx hm (rb.keep hx) hcb (by omega))
  have FN := hid (fun wx C c (h : Rd wx C (bls (a ++ b))) => count_any (a ++ b) C (n + m) c wx (by rw [List.length_append, hn, hm]) h (by omega))
  have HAB := hid (show (a ++ b).length = n + m by rw [List.length_append, hn, hm])
  have hnI : (n : Int) ≤ 1048576 := by omega
  have hmI : (m : Int) ≤ 1048576 := by omega
  have V1 := Mrk.rankV_out (a ++ b) k (by rw [HAB.out]; exact hk)
  have FC1 := hid (fun wx C c (h : Rd wx C (bls (a ++ b))) (hc : n + m ≤ c) => FC.out wx C c k h hc)
  rw [V1] at FC1
  clear V1
  clear hn hm ra rb hca hcb hT hnl hml
  go_enter Tryd.func5, Tryd.ntmps5
  go_wp2_with (first
    | (at_builtin; refine wpList_app rfl (.tmp 16) (.tmp 17) rowBl rfl _ 0 [] rfl (own_new (base := w.heap.size) rfl rfl (Nat.le_refl _) (by decide)) _ n (bls a) rfl (SA.out _ ((ext_refl w).new _)) (by unfold maxLen; omega) (by omega) (by simp) ?_; intro v3 w3 hown3 hg3 ha3 hb3; simp only [Nat.zero_add, List.nil_append] at hown3; have HO3 := hid hown3; have HB3 := hid (((ext_refl w).new _).trans hb3); clear hown3 hg3 ha3 hb3)
    | (at_builtin; refine wpList_app rfl (.tmp 18) (.tmp 19) rowBl rfl _ n (bls a) rfl HO3.out _ m (bls b) rfl (SB.out _ HB3.out) (by unfold maxLen; omega) (by omega) (by have := HB3.out.size; omega) ?_; intro v4 w4 hown4 hg4 ha4 hb4; obtain ⟨A4, c4, rfl, hr4, _, hcap4, _⟩ := Rd.owned hown4; have HR4 := hid (show Rd w4 A4 (bls (a ++ b)) by rw [bls_app]; exact hr4); have HC4 := hid hcap4; have Xp : Hid (Ext w w4) := hid (HB3.out.trans hb4); clear hown4 hg4 ha4 hb4 hr4 hcap4))
  refine Calls.mono (FC1.out _ _ _ HR4.out HC4.out) ?_
  rintro e w1 ⟨rfl, hx⟩
  replace Xp := hid (Xp.out.then hx)
  replace HR4 := hid (HR4.out.keep hx)
  clear hx 
  go_wp2_with fail
  refine Calls.mono (FB.out _ Xp.out) ?_
  rintro e w2 ⟨rfl, hx⟩
  replace Xp := hid (Xp.out.then hx)
  replace HR4 := hid (HR4.out.keep hx)
  clear hx 
  rcases hk with hk | hk
  · go_wp2
    go_returns
    exact ⟨rfl, Xp.out⟩
  · have h0 : ¬ k < 0 := by omega
    have h1 : (n : Int) + (m : Int) < k := by omega
    go_wp2
    go_returns
    exact ⟨rfl, Xp.out⟩
set_option maxHeartbeats 800000 in
theorem rankParts_11 (a b : List Bool) (k : Nat) (A B : Option Addr) (n m ca cb : Nat) (w : World) (hn : a.length = n) (hm : b.length = m) (ra : Rd w A (bls a)) (rb : Rd w B (bls b)) (hca : n ≤ ca) (hcb : m ≤ cb) (hnl : n ≤ 1048576) (hml : m ≤ 1048576) (hT : TabOk w) (hk1 : k ≤ n) (hk2 : k = n + m) :
    Calls Tryd.prog 5 #[.slice A n ca, .slice B m cb, .int .i64 k] w fun e w' => e = .returned (.bool true) ∧ Ext w w' := by
  have SA := hid (fun (wx : World) (hx : Ext w wx) => Src.rd (P := Tryd.prog) (size := 1) (w := wx) Tryd.underlying22 A n ca (bls a) (by rw [bls_len, hn, Nat.mul_one]) (ra.keep hx) (bls_one _) (fun h => ra.nil_of (by rw [bls_len, hn]) h))
  have SB := hid (fun (wx : World) (hx : Ext w wx) => Src.rd (P := Tryd.prog) (size := 1) (w := wx) Tryd.underlying22 B m cb (bls b) (by rw [bls_len, hm, Nat.mul_one]) (rb.keep hx) (bls_one _) (fun h => rb.nil_of (by rw [bls_len, hm]) h))
  have FB := hid (fun wx (hx : Ext w wx) => rankBegun_any wx (hT.keep hx))
  have FC := hid (fun wx C c (x : Int) (h : Rd wx C (bls (a ++ b))) (hc : n + m ≤ c) => rank_all (a ++ b) x C (n + m) c wx (by rw [List.length_append, hn, hm]) h hc (by omega))
  have FA := hid (fun wx (x : Int) (hx : Ext w wx) => rank_all a x A n ca wx hn (ra.keep hx) hca (by omega))
  have FD := hid (fun wx (x : Int) (hx : Ext w wx) => rank_all b x B m cb wx hm (rb.keep hx) hcb (by omega))
  have FN := hid (fun wx C c (h : Rd wx C (bls (a ++ b))) => count_any (a ++ b) C (n + m) c wx (by rw [List.length_append, hn, hm]) h (by omega))
  have HAB := hid (show (a ++ b).length = n + m by rw [List.length_append, hn, hm])
  have hnI : (n : Int) ≤ 1048576 := by omega
  have hmI : (m : Int) ≤ 1048576 := by omega
  have FC1 := hid (fun wx C c (h : Rd wx C (bls (a ++ b))) (hc : n + m ≤ c) => FC.out wx C c (k : Int) h hc)
  rw [Mrk.rankV_in (a ++ b) k (by rw [HAB.out]; omega)] at FC1
  have FA1 := hid (fun wx (hx : Ext w wx) => FA.out wx (min (k : Int) (n : Int)) hx)
  rw [(congrArg (Mrk.rankV a) (show min (k : Int) (n : Int) = (k : Int) by omega)).trans (Mrk.rankV_in a k (by omega))] at FA1
  have K1 : ((a ++ b).take k).count true = (a.take k).count true := by rw [Mrk.take_l a b k (by omega)]
  have B1 : (a.take k).count true ≤ k := Nat.le_trans List.count_le_length (List.length_take_le _ _)
  rw [K1] at FC1
  obtain ⟨c, hc⟩ : ∃ c, c = (a.take k).count true := ⟨_, rfl⟩
  rw [← hc] at FC1 FA1 B1 K1
  have b0 : ((c : Int) == (c : Int)) = true := by simp
  have b1 : ((c : Int) != (c : Int)) = false := by simp
  have i0 : (c : Int) ≤ 2097152 := by omega
  have K2 : (a ++ b).count true = c := by rw [← K1, List.take_of_length_le (by rw [HAB.out]; omega)]
  rw [K2] at FN
  have hE : ((k : Int) == ((n + m : Nat) : Int)) = true := by rw [beq_iff_eq]; omega
  have hE2 : ((k : Int) == (n : Int) + (m : Int)) = true := by rw [beq_iff_eq]; omega
  clear K2
  have k0 : ¬ (k : Int) < 0 := by omega
  have k1 : ¬ (n : Int) + (m : Int) < (k : Int) := by omega
  have k2 : ¬ (n : Int) < (k : Int) := by omega
  have k3 : (k : Int) ≤ (n : Int) := by omega
  have kI : (k : Int) ≤ 2097152 := by omega
  clear K1 FC FA FD hk1 hk2 B1 hc
  clear hn hm ra rb hca hcb hT hnl hml
  go_enter Tryd.func5, Tryd.ntmps5
  go_wp2_with (first
    | (at_builtin; refine wpList_app rfl (.tmp 16) (.tmp 17) rowBl rfl _ 0 [] rfl (own_new (base := w.heap.size) rfl rfl (Nat.le_refl _) (by decide)) _ n (bls a) rfl (SA.out _ ((ext_refl w).new _)) (by unfold maxLen; omega) (by omega) (by simp) ?_; intro v3 w3 hown3 hg3 ha3 hb3; simp only [Nat.zero_add, List.nil_append] at hown3; have HO3 := hid hown3; have HB3 := hid (((ext_refl w).new _).trans hb3); clear hown3 hg3 ha3 hb3)
    | (at_builtin; refine wpList_app rfl (.tmp 18) (.tmp 19) rowBl rfl _ n (bls a) rfl HO3.out _ m (bls b) rfl (SB.out _ HB3.out) (by unfold maxLen; omega) (by omega) (by have := HB3.out.size; omega) ?_; intro v4 w4 hown4 hg4 ha4 hb4; obtain ⟨A4, c4, rfl, hr4, _, hcap4, _⟩ := Rd.owned hown4; have HR4 := hid (show Rd w4 A4 (bls (a ++ b)) by rw [bls_app]; exact hr4); have HC4 := hid hcap4; have Xp : Hid (Ext w w4) := hid (HB3.out.trans hb4); clear hown4 hg4 ha4 hb4 hr4 hcap4))
  refine Calls.mono (FC1.out _ _ _ HR4.out HC4.out) ?_
  rintro e w1 ⟨rfl, hx⟩
  replace Xp := hid (Xp.out.then hx)
  replace HR4 := hid (HR4.out.keep hx)
  clear hx 
  go_wp2_with fail
  refine Calls.mono (FB.out _ Xp.out) ?_
  rintro e w2 ⟨rfl, hx⟩
  replace Xp := hid (Xp.out.then hx)
  replace HR4 := hid (HR4.out.keep hx)
  clear hx 
  go_wp2_with fail
  refine Calls.mono (FA1.out _ Xp.out) ?_
  rintro e w3 ⟨rfl, hx⟩
  replace Xp := hid (Xp.out.then hx)
  replace HR4 := hid (HR4.out.keep hx)
  clear hx 
  go_wp2_with fail
  refine Calls.mono (FN.out _ _ _ HR4.out) ?_
  rintro e w4 ⟨rfl, hx⟩
  replace Xp := hid (Xp.out.then hx)
  replace HR4 := hid (HR4.out.keep hx)
  clear hx 
  go_wp2
  go_returns
  exact ⟨rfl, Xp.out⟩
set_option maxHeartbeats 800000 in
theorem rankParts_10 (a b : List Bool) (k : Nat) (A B : Option Addr) (n m ca cb : Nat) (w : World) (hn : a.length = n) (hm : b.length = m) (ra : Rd w A (bls a)) (rb : Rd w B (bls b)) (hca : n ≤ ca) (hcb : m ≤ cb) (hnl : n ≤ 1048576) (hml : m ≤ 1048576) (hT : TabOk w) (hk1 : k ≤ n) (hk2 : k < n + m) :
    Calls Tryd.prog 5 #[.slice A n ca, .slice B m cb, .int .i64 k] w fun e w' => e = .returned (.bool true) ∧ Ext w w' := by
  have SA := hid (fun (wx : World) (hx : Ext w wx) => Src.rd (P := Tryd.prog) (size := 1) (w := wx) Tryd.underlying22 A n ca (bls a) (by rw [bls_len, hn, Nat.mul_one]) (ra.keep hx) (bls_one _) (fun h => ra.nil_of (by rw [bls_len, hn]) h))
  have SB := hid (fun (wx : World) (hx : Ext w wx) => Src.rd (P := Tryd.prog) (size := 1) (w := wx) Tryd.underlying22 B m cb (bls b) (by rw [bls_len, hm, Nat.mul_one]) (rb.keep hx) (bls_one _) (fun h => rb.nil_of (by rw [bls_len, hm]) h))
  have FB := hid (fun wx (hx : Ext w wx) => rankBegun_any wx (hT.keep hx))
  have FC := hid (fun wx C c (x : Int) (h : Rd wx C (bls (a ++ b))) (hc : n + m ≤ c) => rank_all (a ++ b) x C (n + m) c wx (by rw [List.length_append, hn, hm]) h hc (by omega))
  have FA := hid (fun wx (x : Int) (hx : Ext w wx) => rank_all a x A n ca wx hn (ra.keep hx) hca (by omega))
  have FD := hid (fun wx (x : Int) (hx : Ext w wx) => rank_all b x B m cb wx hm (rb.keep hx) hcb (by omega))
  have FN := hid (fun wx C c (h : Rd wx C (bls (a ++ b))) => count_any (a ++ b) C (n + m) c wx (by rw [List.length_append, hn, hm]) h (by omega))
  have HAB := hid (show (a ++ b).length = n + m by rw [List.length_append, hn, hm])
  have hnI : (n : Int) ≤ 1048576 := by omega
  have hmI : (m : Int) ≤ 1048576 := by omega
  have FC1 := hid (fun wx C c (h : Rd wx C (bls (a ++ b))) (hc : n + m ≤ c) => FC.out wx C c (k : Int) h hc)
  rw [Mrk.rankV_in (a ++ b) k (by rw [HAB.out]; omega)] at FC1
  have FA1 := hid (fun wx (hx : Ext w wx) => FA.out wx (min (k : Int) (n : Int)) hx)
  rw [(congrArg (Mrk.rankV a) (show min (k : Int) (n : Int) = (k : Int) by omega)).trans (Mrk.rankV_in a k (by omega))] at FA1
  have K1 : ((a ++ b).take k).count true = (a.take k).count true := by rw [Mrk.take_l a b k (by omega)]
  have B1 : (a.take k).count true ≤ k := Nat.le_trans List.count_le_length (List.length_take_le _ _)
  rw [K1] at FC1
  obtain ⟨c, hc⟩ : ∃ c, c = (a.take k).count true := ⟨_, rfl⟩
  rw [← hc] at FC1 FA1 B1 K1
  have b0 : ((c : Int) == (c : Int)) = true := by simp
  have b1 : ((c : Int) != (c : Int)) = false := by simp
  have i0 : (c : Int) ≤ 2097152 := by omega
  have hkl : k < (a ++ b).length := by rw [HAB.out]; omega
  have hE : ((k : Int) == ((n + m : Nat) : Int)) = false := by rw [beq_eq_false_iff_ne]; omega
  have hE2 : ((k : Int) == (n : Int) + (m : Int)) = false := by rw [beq_eq_false_iff_ne]; omega
  obtain ⟨x, hx⟩ : ∃ x, (a ++ b)[k]? = some x := ⟨_, List.getElem?_eq_getElem hkl⟩
  have FE1 := hid (fun wx C c (h : Rd wx C (bls (a ++ b))) (hc : n + m ≤ c) => FC.out wx C c ((k : Int) + 1) h hc)
  rw [show ((k : Int) + 1) = ((k + 1 : Nat) : Int) from by omega, Mrk.rankV_in (a ++ b) (k + 1) (by rw [HAB.out]; omega), Mrk.count_at (a ++ b) k x hx, K1] at FE1
  rw [show ((k + 1 : Nat) : Int) = (k : Int) + 1 from by omega] at FE1
  have HX := hid (fun (wx : World) (C : Option Addr) (h : Rd wx C (bls (a ++ b))) => Mrk.bool_at h k x hx)
  have h5 : (((c + 1 : Nat) : Int) == (c : Int)) = false := by rw [beq_eq_false_iff_ne]; omega
  have h6 : (((c + 1 : Nat) : Int) == (c : Int) + 1) = true := by rw [beq_iff_eq]; omega
  have h7 : (((c + 0 : Nat) : Int) == (c : Int) + 1) = false := by rw [beq_eq_false_iff_ne]; omega
  have h8 : (((c + 0 : Nat) : Int) == (c : Int)) = true := by rw [beq_iff_eq]; omega
  have h9 : ((c : Int) == (c : Int) + 1) = false := by rw [beq_eq_false_iff_ne]; omega
  have h10 : ((c : Int) + 1 == (c : Int)) = false := by rw [beq_eq_false_iff_ne]; omega
  have hkI : (k : Int) < (n : Int) + (m : Int) := by omega
  clear hkl hx
  have k0 : ¬ (k : Int) < 0 := by omega
  have k1 : ¬ (n : Int) + (m : Int) < (k : Int) := by omega
  have k2 : ¬ (n : Int) < (k : Int) := by omega
  have k3 : (k : Int) ≤ (n : Int) := by omega
  have kI : (k : Int) ≤ 2097152 := by omega
  clear K1 FC FA FD hk1 hk2 B1 hc
  clear hn hm ra rb hca hcb hT hnl hml
  go_enter Tryd.func5, Tryd.ntmps5
  go_wp2_with (first
    | (at_builtin; refine wpList_app rfl (.tmp 16) (.tmp 17) rowBl rfl _ 0 [] rfl (own_new (base := w.heap.size) rfl rfl (Nat.le_refl _) (by decide)) _ n (bls a) rfl (SA.out _ ((ext_refl w).new _)) (by unfold maxLen; omega) (by omega) (by simp) ?_; intro v3 w3 hown3 hg3 ha3 hb3; simp only [Nat.zero_add, List.nil_append] at hown3; have HO3 := hid hown3; have HB3 := hid (((ext_refl w).new _).trans hb3); clear hown3 hg3 ha3 hb3)
    | (at_builtin; refine wpList_app rfl (.tmp 18) (.tmp 19) rowBl rfl _ n (bls a) rfl HO3.out _ m (bls b) rfl (SB.out _ HB3.out) (by unfold maxLen; omega) (by omega) (by have := HB3.out.size; omega) ?_; intro v4 w4 hown4 hg4 ha4 hb4; obtain ⟨A4, c4, rfl, hr4, _, hcap4, _⟩ := Rd.owned hown4; have HR4 := hid (show Rd w4 A4 (bls (a ++ b)) by rw [bls_app]; exact hr4); have HC4 := hid hcap4; have Xp : Hid (Ext w w4) := hid (HB3.out.trans hb4); clear hown4 hg4 ha4 hb4 hr4 hcap4))
  refine Calls.mono (FC1.out _ _ _ HR4.out HC4.out) ?_
  rintro e w1 ⟨rfl, hx⟩
  replace Xp := hid (Xp.out.then hx)
  replace HR4 := hid (HR4.out.keep hx)
  clear hx 
  go_wp2_with fail
  refine Calls.mono (FB.out _ Xp.out) ?_
  rintro e w2 ⟨rfl, hx⟩
  replace Xp := hid (Xp.out.then hx)
  replace HR4 := hid (HR4.out.keep hx)
  clear hx 
  go_wp2_with fail
  refine Calls.mono (FA1.out _ Xp.out) ?_
  rintro e w3 ⟨rfl, hx⟩
  replace Xp := hid (Xp.out.then hx)
  replace HR4 := hid (HR4.out.keep hx)
  clear hx 
  go_wp2_with fail
  refine Calls.mono (FE1.out _ _ _ HR4.out HC4.out) ?_
  rintro e w4 ⟨rfl, hx⟩
  replace Xp := hid (Xp.out.then hx)
  replace HR4 := hid (HR4.out.keep hx)
  clear hx 
  obtain ⟨bb, oo, rfl, l1, d1⟩ := HX.out _ _ HR4.out
  cases x
  · go_wp2
    go_returns
    exact ⟨rfl, Xp.out⟩
  · go_wp2
    go_returns
    exact ⟨rfl, Xp.out⟩
set_option maxHeartbeats 800000 in
theorem rankParts_01 (a b : List Bool) (k : Nat) (A B : Option Addr) (n m ca cb : Nat) (w : World) (hn : a.length = n) (hm : b.length = m) (ra : Rd w A (bls a)) (rb : Rd w B (bls b)) (hca : n ≤ ca) (hcb : m ≤ cb) (hnl : n ≤ 1048576) (hml : m ≤ 1048576) (hT : TabOk w) (hk1 : k > n) (hk2 : k = n + m) :
    Calls Tryd.prog 5 #[.slice A n ca, .slice B m cb, .int .i64 k] w fun e w' => e = .returned (.bool true) ∧ Ext w w' := by
  have SA := hid (fun (wx : World) (hx : Ext w wx) => Src.rd (P := Tryd.prog) (size := 1) (w := wx) Tryd.underlying22 A n ca (bls a) (by rw [bls_len, hn, Nat.mul_one]) (ra.keep hx) (bls_one _) (fun h => ra.nil_of (by rw [bls_len, hn]) h))
  have SB := hid (fun (wx : World) (hx : Ext w wx) => Src.rd (P := Tryd.prog) (size := 1) (w := wx) Tryd.underlying22 B m cb (bls b) (by rw [bls_len, hm, Nat.mul_one]) (rb.keep hx) (bls_one _) (fun h => rb.nil_of (by rw [bls_len, hm]) h))
  have FB := hid (fun wx (hx : Ext w wx) => rankBegun_any wx (hT.keep hx))
  have FC := hid (fun wx C c (x : Int) (h : Rd wx C (bls (a ++ b))) (hc : n + m ≤ c) => rank_all (a ++ b) x C (n + m) c wx (by rw [List.length_append, hn, hm]) h hc (by omega))
  have FA := hid (fun wx (x : Int) (hx : Ext w wx) => rank_all a x A n ca wx hn (ra.keep hx) hca (by omega))
  have FD := hid (fun wx (x : Int) (hx : Ext w wx) => rank_all b x B m cb wx hm (rb.keep hx) hcb (by omega))
  have FN := hid (fun wx C c (h : Rd wx C (bls (a ++ b))) => count_any (a ++ b) C (n + m) c wx (by rw [List.length_append, hn, hm]) h (by omega))
  have HAB := hid (show (a ++ b).length = n + m by rw [List.length_append, hn, hm])
  have hnI : (n : Int) ≤ 1048576 := by omega
  have hmI : (m : Int) ≤ 1048576 := by omega
  have FC1 := hid (fun wx C c (h : Rd wx C (bls (a ++ b))) (hc : n + m ≤ c) => FC.out wx C c (k : Int) h hc)
  rw [Mrk.rankV_in (a ++ b) k (by rw [HAB.out]; omega)] at FC1
  have FA1 := hid (fun wx (hx : Ext w wx) => FA.out wx (min (k : Int) (n : Int)) hx)
  rw [(congrArg (Mrk.rankV a) (show min (k : Int) (n : Int) = (n : Int) by omega)).trans (Mrk.rankV_in a n (by omega))] at FA1
  have hj : (k : Int) - (n : Int) = ((k - n : Nat) : Int) := by omega
  have FD1 := hid (fun wx (hx : Ext w wx) => FD.out wx ((k : Int) - (n : Int)) hx)
  rw [hj, Mrk.rankV_in b (k - n) (by omega)] at FD1
  have K0 := Mrk.count_r a b k (by omega)
  rw [hn] at K0
  have B1 : (a.take n).count true ≤ n := Nat.le_trans List.count_le_length (List.length_take_le _ _)
  have B2 : (b.take (k - n)).count true ≤ k - n := Nat.le_trans List.count_le_length (List.length_take_le _ _)
  rw [← hj] at FD1
  generalize (a.take n).count true = c1 at *
  generalize (b.take (k - n)).count true = c2 at *
  obtain ⟨c, hc⟩ : ∃ c, c = c1 + c2 := ⟨_, rfl⟩
  have K1 : ((a ++ b).take k).count true = c := by rw [K0, hc]
  rw [K1] at FC1
  have hcI : (c1 : Int) + (c2 : Int) = (c : Int) := by omega
  have hwr : IntKind.i64.wrap ((c1 : Int) + (c2 : Int)) = (c : Int) := by rw [IntKind.wrap_i64]; omega
  have hj2 : (n : Int) ≤ (k : Int) := by omega
  have i1 : (c1 : Int) ≤ 1048576 := by omega
  have i2 : (c2 : Int) ≤ 1048576 := by omega
  clear K0 hj hc
  have b0 : ((c : Int) == (c : Int)) = true := by simp
  have b1 : ((c : Int) != (c : Int)) = false := by simp
  have i0 : (c : Int) ≤ 2097152 := by omega
  have K2 : (a ++ b).count true = c := by rw [← K1, List.take_of_length_le (by rw [HAB.out]; omega)]
  rw [K2] at FN
  have hE : ((k : Int) == ((n + m : Nat) : Int)) = true := by rw [beq_iff_eq]; omega
  have hE2 : ((k : Int) == (n : Int) + (m : Int)) = true := by rw [beq_iff_eq]; omega
  clear K2
  have k0 : ¬ (k : Int) < 0 := by omega
  have k1 : ¬ (n : Int) + (m : Int) < (k : Int) := by omega
  have k2 : (n : Int) < (k : Int) := by omega
  have k3 : ¬ (k : Int) ≤ (n : Int) := by omega
  have kI : (k : Int) ≤ 2097152 := by omega
  clear K1 FC FA FD hk1 hk2 B1 B2
  clear hn hm ra rb hca hcb hT hnl hml
  go_enter Tryd.func5, Tryd.ntmps5
  go_wp2_with (first
    | (at_builtin; refine wpList_app rfl (.tmp 16) (.tmp 17) rowBl rfl _ 0 [] rfl (own_new (base := w.heap.size) rfl rfl (Nat.le_refl _) (by decide)) _ n (bls a) rfl (SA.out _ ((ext_refl w).new _)) (by unfold maxLen; omega) (by omega) (by simp) ?_; intro v3 w3 hown3 hg3 ha3 hb3; simp only [Nat.zero_add, List.nil_append] at hown3; have HO3 := hid hown3; have HB3 := hid (((ext_refl w).new _).trans hb3); clear hown3 hg3 ha3 hb3)
    | (at_builtin; refine wpList_app rfl (.tmp 18) (.tmp 19) rowBl rfl _ n (bls a) rfl HO3.out _ m (bls b) rfl (SB.out _ HB3.out) (by unfold maxLen; omega) (by omega) (by have := HB3.out.size; omega) ?_; intro v4 w4 hown4 hg4 ha4 hb4; obtain ⟨A4, c4, rfl, hr4, _, hcap4, _⟩ := Rd.owned hown4; have HR4 := hid (show Rd w4 A4 (bls (a ++ b)) by rw [bls_app]; exact hr4); have HC4 := hid hcap4; have Xp : Hid (Ext w w4) := hid (HB3.out.trans hb4); clear hown4 hg4 ha4 hb4 hr4 hcap4))
  refine Calls.mono (FC1.out _ _ _ HR4.out HC4.out) ?_
  rintro e w1 ⟨rfl, hx⟩
  replace Xp := hid (Xp.out.then hx)
  replace HR4 := hid (HR4.out.keep hx)
  clear hx 
  go_wp2_with fail
  refine Calls.mono (FB.out _ Xp.out) ?_
  rintro e w2 ⟨rfl, hx⟩
  replace Xp := hid (Xp.out.then hx)
  replace HR4 := hid (HR4.out.keep hx)
  clear hx 
  go_wp2_with fail
  refine Calls.mono (FA1.out _ Xp.out) ?_
  rintro e w3 ⟨rfl, hx⟩
  replace Xp := hid (Xp.out.then hx)
  replace HR4 := hid (HR4.out.keep hx)
  clear hx 
  go_wp2_with fail
  refine Calls.mono (FD1.out _ Xp.out) ?_
  rintro e w4 ⟨rfl, hx⟩
  replace Xp := hid (Xp.out.then hx)
  replace HR4 := hid (HR4.out.keep hx)
  clear hx 
  go_wp2_with fail
  refine Calls.mono (FN.out _ _ _ HR4.out) ?_
  rintro e w5 ⟨rfl, hx⟩
  replace Xp := hid (Xp.out.then hx)
  replace HR4 := hid (HR4.out.keep hx)
  clear hx 
  go_wp2
  go_returns
  exact ⟨rfl, Xp.out⟩
set_option maxHeartbeats 800000 in
theorem rankParts_00 (a b : List Bool) (k : Nat) (A B : Option Addr) (n m ca cb : Nat) (w : World) (hn : a.length = n) (hm : b.length = m) (ra : Rd w A (bls a)) (rb : Rd w B (bls b)) (hca : n ≤ ca) (hcb : m ≤ cb) (hnl : n ≤ 1048576) (hml : m ≤ 1048576) (hT : TabOk w) (hk1 : k > n) (hk2 : k < n + m) :
    Calls Tryd.prog 5 #[.slice A n ca, .slice B m cb, .int .i64 k] w fun e w' => e = .returned (.bool true) ∧ Ext w w' := by
  have SA := hid (fun (wx : World) (hx : Ext w wx) => Src.rd (P := Tryd.prog) (size := 1) (w := wx) Tryd.underlying22 A n ca (bls a) (by rw [bls_len, hn, Nat.mul_one]) (ra.keep hx) (bls_one _) (fun h => ra.nil_of (by rw [bls_len, hn]) h))
  have SB := hid (fun (wx : World) (hx : Ext w wx) => Src.rd (P := Tryd.prog) (size := 1) (w := wx) Tryd.underlying22 B m cb (bls b) (by rw [bls_len, hm, Nat.mul_one]) (rb.keep hx) (bls_one _) (fun h => rb.nil_of (by rw [bls_len, hm]) h))
  have FB := hid (fun wx (hx : Ext w wx) => rankBegun_any wx (hT.keep hx))
  have FC := hid (fun wx C c (x : Int) (h : Rd wx C (bls (a ++ b))) (hc : n + m ≤ c) => rank_all (a ++ b) x C (n + m) c wx (by rw [List.length_append, hn, hm]) h hc (by omega))
  have FA := hid (fun wx (x : Int) (hx : Ext w wx) => rank_all a x A n ca wx hn (ra.keep hx) hca (by omega))
  have FD := hid (fun wx (x : Int) (hx : Ext w wx) => rank_all b x B m cb wx hm (rb.keep hx) hcb (by omega))
  have FN := hid (fun wx C c (h : Rd wx C (bls (a ++ b))) => count_any (a ++ b) C (n + m) c wx (by rw [List.length_append, hn, hm]) h (by omega))
  have HAB := hid (show (a ++ b).length = n + m by rw [List.length_append, hn, hm])
  have hnI : (n : Int) ≤ 1048576 := by omega
  have hmI : (m : Int) ≤ 1048576 := by omega
  have FC1 := hid (fun wx C c (h : Rd wx C (bls (a ++ b))) (hc : n + m ≤ c) => FC.out wx C c (k : Int) h hc)
  rw [Mrk.rankV_in (a ++ b) k (by rw [HAB.out]; omega)] at FC1
  have FA1 := hid (fun wx (hx : Ext w wx) => FA.out wx (min (k : Int) (n : Int)) hx)
  rw [(congrArg (Mrk.rankV a) (show min (k : Int) (n : Int) = (n : Int) by omega)).trans (Mrk.rankV_in a n (by omega))] at FA1
  have hj : (k : Int) - (n : Int) = ((k - n : Nat) : Int) := by omega
  have FD1 := hid (fun wx (hx : Ext w wx) => FD.out wx ((k : Int) - (n : Int)) hx)
  rw [hj, Mrk.rankV_in b (k - n) (by omega)] at FD1
  have K0 := Mrk.count_r a b k (by omega)
  rw [hn] at K0
  have B1 : (a.take n).count true ≤ n := Nat.le_trans List.count_le_length (List.length_take_le _ _)
  have B2 : (b.take (k - n)).count true ≤ k - n := Nat.le_trans List.count_le_length (List.length_take_le _ _)
  rw [← hj] at FD1
  generalize (a.take n).count true = c1 at *
  generalize (b.take (k - n)).count true = c2 at *
  obtain ⟨c, hc⟩ : ∃ c, c = c1 + c2 := ⟨_, rfl⟩
  have K1 : ((a ++ b).take k).count true = c := by rw [K0, hc]
  rw [K1] at FC1
  have hcI : (c1 : Int) + (c2 : Int) = (c : Int) := by omega
  have hwr : IntKind.i64.wrap ((c1 : Int) + (c2 : Int)) = (c : Int) := by rw [IntKind.wrap_i64]; omega
  have hj2 : (n : Int) ≤ (k : Int) := by omega
  have i1 : (c1 : Int) ≤ 1048576 := by omega
  have i2 : (c2 : Int) ≤ 1048576 := by omega
  clear K0 hj hc
  have b0 : ((c : Int) == (c : Int)) = true := by simp
  have b1 : ((c : Int) != (c : Int)) = false := by simp
  have i0 : (c : Int) ≤ 2097152 := by omega
  have hkl : k < (a ++ b).length := by rw [HAB.out]; omega
  have hE : ((k : Int) == ((n + m : Nat) : Int)) = false := by rw [beq_eq_false_iff_ne]; omega
  have hE2 : ((k : Int) == (n : Int) + (m : Int)) = false := by rw [beq_eq_false_iff_ne]; omega
  obtain ⟨x, hx⟩ : ∃ x, (a ++ b)[k]? = some x := ⟨_, List.getElem?_eq_getElem hkl⟩
  have FE1 := hid (fun wx C c (h : Rd wx C (bls (a ++ b))) (hc : n + m ≤ c) => FC.out wx C c ((k : Int) + 1) h hc)
  rw [show ((k : Int) + 1) = ((k + 1 : Nat) : Int) from by omega, Mrk.rankV_in (a ++ b) (k + 1) (by rw [HAB.out]; omega), Mrk.count_at (a ++ b) k x hx, K1] at FE1
  rw [show ((k + 1 : Nat) : Int) = (k : Int) + 1 from by omega] at FE1
  have HX := hid (fun (wx : World) (C : Option Addr) (h : Rd wx C (bls (a ++ b))) => Mrk.bool_at h k x hx)
  have h5 : (((c + 1 : Nat) : Int) == (c : Int)) = false := by rw [beq_eq_false_iff_ne]; omega
  have h6 : (((c + 1 : Nat) : Int) == (c : Int) + 1) = true := by rw [beq_iff_eq]; omega
  have h7 : (((c + 0 : Nat) : Int) == (c : Int) + 1) = false := by rw [beq_eq_false_iff_ne]; omega
  have h8 : (((c + 0 : Nat) : Int) == (c : Int)) = true := by rw [beq_iff_eq]; omega
  have h9 : ((c : Int) == (c : Int) + 1) = false := by rw [beq_eq_false_iff_ne]; omega
  have h10 : ((c : Int) + 1 == (c : Int)) = false := by rw [beq_eq_false_iff_ne]; omega
  have hkI : (k : Int) < (n : Int) + (m : Int) := by omega
  clear hkl hx
  have k0 : ¬ (k : Int) < 0 := by omega
  have k1 : ¬ (n : Int) + (m : Int) < (k : Int) := by omega
  have k2 : (n : Int) < (k : Int) := by omega
  have k3 : ¬ (k : Int) ≤ (n : Int) := by omega
  have kI : (k : Int) ≤ 2097152 := by omega
  clear K1 FC FA FD hk1 hk2 B1 B2
  clear hn hm ra rb hca hcb hT hnl hml
  go_enter Tryd.func5, Tryd.ntmps5
  go_wp2_with (first
    | (at_builtin; refine wpList_app rfl (.tmp 16) (.tmp 17) rowBl rfl _ 0 [] rfl (own_new (base := w.heap.size) rfl rfl (Nat.le_refl _) (by decide)) _ n (bls a) rfl (SA.out _ ((ext_refl w).new _)) (by unfold maxLen; omega) (by omega) (by simp) ?_; intro v3 w3 hown3 hg3 ha3 hb3; simp only [Nat.zero_add, List.nil_append] at hown3; have HO3 := hid hown3; have HB3 := hid (((ext_refl w).new _).trans hb3); clear hown3 hg3 ha3 hb3)
    | (at_builtin; refine wpList_app rfl (.tmp 18) (.tmp 19) rowBl rfl _ n (bls a) rfl HO3.out _ m (bls b) rfl (SB.out _ HB3.out) (by unfold maxLen; omega) (by omega) (by have := HB3.out.size; omega) ?_; intro v4 w4 hown4 hg4 ha4 hb4; obtain ⟨A4, c4, rfl, hr4, _, hcap4, _⟩ := Rd.owned hown4; have HR4 := hid (show Rd w4 A4 (bls (a ++ b)) by rw [bls_app]; exact hr4); have HC4 := hid hcap4; have Xp : Hid (Ext w w4) := hid (HB3.out.trans hb4); clear hown4 hg4 ha4 hb4 hr4 hcap4))
  refine Calls.mono (FC1.out _ _ _ HR4.out HC4.out) ?_
  rintro e w1 ⟨rfl, hx⟩
  replace Xp := hid (Xp.out.then hx)
  replace HR4 := hid (HR4.out.keep hx)
  clear hx 
  go_wp2_with fail
  refine Calls.mono (FB.out _ Xp.out) ?_
  rintro e w2 ⟨rfl, hx⟩
  replace Xp := hid (Xp.out.then hx)
  replace HR4 := hid (HR4.out.keep hx)
  clear hx 
  go_wp2_with fail
  refine Calls.mono (FA1.out _ Xp.out) ?_
  rintro e w3 ⟨rfl, hx⟩
  replace Xp := hid (Xp.out.then hx)
  replace HR4 := hid (HR4.out.keep hx)
  clear hx 
  go_wp2_with fail
  refine Calls.mono (FD1.out _ Xp.out) ?_
  rintro e w4 ⟨rfl, hx⟩
  replace Xp := hid (Xp.out.then hx)
  replace HR4 := hid (HR4.out.keep hx)
  clear hx 
  go_wp2_with fail
  refine Calls.mono (FE1.out _ _ _ HR4.out HC4.out) ?_
  rintro e w5 ⟨rfl, hx⟩
  replace Xp := hid (Xp.out.then hx)
  replace HR4 := hid (HR4.out.keep hx)
  clear hx 
  obtain ⟨bb, oo, rfl, l1, d1⟩ := HX.out _ _ HR4.out
  cases x
  · go_wp2
    go_returns
    exact ⟨rfl, Xp.out⟩
  · go_wp2
    go_returns
    exact ⟨rfl, Xp.out⟩
theorem rankParts_any (a b : List Bool) (k : Int) (A B : Option Addr) (n m ca cb : Nat) (w : World) (hn : a.length = n) (hm : b.length = m) (ra : Rd w A (bls a)) (rb : Rd w B (bls b)) (hca : n ≤ ca) (hcb : m ≤ cb) (hnl : n ≤ 1048576) (hml : m ≤ 1048576) (hT : TabOk w) :
    Calls Tryd.prog 5 #[.slice A n ca, .slice B m cb, .int .i64 k] w fun e w' => e = .returned (.bool true) ∧ Ext w w' := by
  by_cases h : k < 0 ∨ ((n + m : Nat) : Int) < k
  · exact rankParts_out a b k A B n m ca cb w hn hm ra rb hca hcb hnl hml hT h
  · obtain ⟨k, rfl⟩ := Int.eq_ofNat_of_zero_le (show 0 ≤ k by omega)
    by_cases h1 : k ≤ n
    · by_cases h2 : k = n + m
      · exact rankParts_11 a b k A B n m ca cb w hn hm ra rb hca hcb hnl hml hT h1 h2
      · exact rankParts_10 a b k A B n m ca cb w hn hm ra rb hca hcb hnl hml hT h1 (by omega)
    · by_cases h2 : k = n + m
      · exact rankParts_01 a b k A B n m ca cb w hn hm ra rb hca hcb hnl hml hT (by omega) h2
      · exact rankParts_00 a b k A B n m ca cb w hn hm ra rb hca hcb hnl hml hT (by omega) (by omega)
end Go.Proofs.YtikdmnedbfpkeaaDoor
