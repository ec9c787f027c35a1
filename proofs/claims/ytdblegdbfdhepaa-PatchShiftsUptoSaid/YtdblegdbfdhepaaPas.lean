/- Patch: what is written is read; the closed test: walk. -/
import Derived.Test.YtdblegdbfdhepaaPar
import Derived.Test.YtdblegdbfdhepaaSnm
namespace Hy.Pat
open Go
theorem wrt_a : wrt [100, 101, 103, 100, 9999, 102] = ([100, 2, 1, 52, 8, 4, 166, 171], 0) := by decide +kernel
theorem rdP_a : rdP [100, 2, 1, 52, 8, 4, 166, 171] 6 = ([100, 101, 103, 100, 9999, 102], 0) := by decide +kernel
theorem rdP_b : rdP [5, 0, 0] 3 = ([5, 5, 5], 0) := by decide +kernel
theorem rdP_c : rdP [255, 255, 255, 255, 255, 255, 255, 255, 255, 1, 0, 1] 1 = ([], 8) := by decide +kernel
theorem cos_a : cos [100, 101, 103, 100, 9999, 102] 2 = (5, 0) := by decide +kernel
theorem onS_tl (w : Nat) : ∀ (Q P : List Nat) (last : Int) (r : List UInt8), P.length + Q.length ≤ 64 → last < (P.length : Int) → (∀ x ∈ Q, x < 18446744073709551616) →
    onS w (cnt w Q) (P ++ inn w Q) last (tl w P.length Q ++ r) = (0, P ++ Q, r)
  | [], P, last, r, _, _, _ => by simp [cnt, inn, tl, onS]
  | x :: Q, P, last, r, hl, hla, hx => by
    have hxx := hx x (by simp)
    have hQ : ∀ y ∈ Q, y < 18446744073709551616 := fun y hy => hx y (by simp [hy])
    rw [List.length_cons] at hl
    have e1 : P ++ x :: Q = (P ++ [x]) ++ Q := by simp
    have e2 : (P ++ [x]).length = P.length + 1 := by simp
    by_cases ho : w < Lib.bitLen x
    · have hc : cnt w (x :: Q) = cnt w Q + 1 := by unfold cnt; rw [List.map_cons, List.sum_cons, if_pos ho]; omega
      have ht : tl w P.length (x :: Q) ++ r = UInt8.ofNat P.length :: (Vary.wr x ++ (tl w (P.length + 1) Q ++ r)) := by simp [tl, ho]
      have hi : inn w (x :: Q) = 0 :: inn w Q := by simp [inn, ho]
      have hP : (UInt8.ofNat P.length).toNat = P.length := by rw [UInt8.toNat_ofNat']; omega
      have hrd := Vary.rd_wr x (tl w (P.length + 1) Q ++ r) hxx
      have hE : onE w (P ++ inn w (x :: Q)) last (tl w P.length (x :: Q) ++ r) = (0, P.length, (P ++ [x]) ++ inn w Q, tl w (P.length + 1) Q ++ r) := by
        rw [ht, onE_ok (n := x) (k := Vary.beh x + 1) (by rw [hP, List.length_append, inn_len, List.length_cons]; omega) (by rw [hP]; omega) (by rw [hP, hi, List.getD_eq_getElem?_getD, List.getElem?_append_right (Nat.le_refl _), Nat.sub_self]; rfl) hrd (by omega), hP, hi,
          List.set_append_right _ _ (Nat.le_refl _), Nat.sub_self, List.set_cons_zero, ← Vary.wr_len, List.drop_left]
        simp
      have ih := onS_tl w Q (P ++ [x]) (P.length : Int) r (by rw [e2]; omega) (by rw [e2]; omega) hQ
      rw [hc, onS_succ, hE, if_neg (by simp)]
      rw [e2] at ih
      rw [ih, e1]
    · have hc : cnt w (x :: Q) = cnt w Q := by unfold cnt; rw [List.map_cons, List.sum_cons, if_neg ho]; omega
      have ht : tl w P.length (x :: Q) = tl w (P.length + 1) Q := by simp [tl, ho]
      have hi : inn w (x :: Q) = x :: inn w Q := by simp [inn, ho]
      have ih := onS_tl w Q (P ++ [x]) last r (by rw [e2]; omega) (by rw [e2]; omega) hQ
      rw [e2] at ih
      rw [hc, ht, hi, show P ++ x :: inn w Q = (P ++ [x]) ++ inn w Q by simp, ih, e1]
theorem add_mor (l : List Nat) (hl : ∀ x ∈ l, x < 18446744073709551616) : add (bas l) (mor l) = (l, 0) := by
  have hb := bas_le l
  have e : (mor l).map (· + bas l) = l := by
    unfold mor
    rw [List.map_map]
    conv => rhs; rw [← List.map_id l]
    exact List.map_congr_left fun x hx => by have := hb x hx; show x - bas l + bas l = x; omega
  rw [add_all, e]
  intro i hi
  obtain ⟨y, hy, h⟩ := List.mem_map.1 (List.getElem_mem hi)
  rw [List.getD_eq_getElem?_getD, List.getElem?_eq_getElem hi, Option.getD_some, ← h]
  have := hb y hy
  have := hl y hy
  show y - bas l + bas l < _
  omega
/-- what is written is read -/
theorem rdP_bys (l : List Nat) (h : l.length ≤ 64) (hl : ∀ x ∈ l, x < 18446744073709551616) : rdP (bys l) (l.length : Int) = (l, 0) := by
  have hml := mor_lt l hl
  have hmn := mor_len l
  have hwb := bst_le (mor l) 64
  have hcl := cnt_le (bst (mor l) 64) (mor l)
  have hB := bys_eq l
  have hin := inn_len (bst (mor l) 64) (mor l)
  have hilt := inn_lt (bst (mor l) 64) (mor l) hwb hml
  have hS := onS_tl (bst (mor l) 64) (mor l) [] (-1) [] (by simp; omega) (by simp) hml
  simp only [List.nil_append, List.length_nil, List.append_nil] at hS
  have hA := add_mor l hl
  have hbb := bas_lt l hl
  generalize bst (mor l) 64 = wd at *
  generalize mor l = M at *
  generalize hI : inn wd M = I at *
  have hpl := Bits.packed_len I wd
  have hchk := Bits.chk_packed (l := I) (w := wd) hwb (by omega) hilt
  have hunp := Bits.unp_packed I wd hilt
  have hwu : (UInt8.ofNat wd).toNat = wd := by rw [UInt8.toNat_ofNat']; omega
  have hcu : (UInt8.ofNat (cnt wd M)).toNat = cnt wd M := by rw [UInt8.toNat_ofNat']; omega
  have hrd := Vary.rd_wr (bas l) ([UInt8.ofNat wd, UInt8.ofNat (cnt wd M)] ++ (Bits.packed I wd ++ tl wd 0 M)) hbb
  rw [← Vary.wr_len] at hrd
  have hB2 : bys l = Vary.wr (bas l) ++ ([UInt8.ofNat wd, UInt8.ofNat (cnt wd M)] ++ (Bits.packed I wd ++ tl wd 0 M)) := by rw [hB]; simp
  rw [hB2]
  have hIn : I.length = l.length := by rw [hin, hmn]
  have hfr : fr (Vary.wr (bas l) ++ ([UInt8.ofNat wd, UInt8.ofNat (cnt wd M)] ++ (Bits.packed I wd ++ tl wd 0 M))) l.length = (0, bas l, M) := by
    rw [fr_ok hrd, List.drop_left]
    show fr1 _ _ (UInt8.ofNat wd :: UInt8.ofNat (cnt wd M) :: (Bits.packed I wd ++ tl wd 0 M)) = _
    have hsz : Bits.size l.length wd = (Bits.packed I wd).length := by rw [hpl, hIn]
    rw [fr1_cons, fr2_ok (by omega) (by rw [hwu, hsz, List.length_append]; omega) (by rw [hwu, hsz, List.take_left, ← hIn]; exact hchk)]
    rw [hwu, hcu, hsz, List.take_left, List.drop_left, ← hIn, hunp, fr3_ok (by rw [hS]) (by rw [hS]), hS]
  rw [rdP_ok h (by rw [hfr]), hfr]
  exact hA
end Hy.Pat
namespace Go.Proofs.Ytdblegdbfdhepaa
open Go.RowKit Hy
theorem pWrite_of (l : List Nat) (r : List UInt8) (er : Nat) (A : Option Addr) (n cap : Nat) (w : World) (hn : l.length = n) (hr : Rd w A (u64s l)) (hl : ∀ x ∈ l, x < 18446744073709551616) (hnl : n ≤ 9223372036854775806) (h : Pat.wrt l = (r, er)) :
    Calls Try.prog 31 #[.slice A n cap] w fun e w' => e = .returned (.tuple #[.string ⟨r.toArray⟩, .int .i64 er]) ∧ Ext w w' := by
  have h1 := pWrite_any l A n cap w hn hr hl hnl
  rw [h] at h1; exact h1
theorem pRead_of (s : List UInt8) (many : Int) (w : World) (r : List Nat) (er : Nat) (hs : s.length ≤ 281474976710656) (h : Pat.rdP s many = (r, er)) :
    Calls Try.prog 35 #[.string ⟨s.toArray⟩, .int .i64 many] w fun e w' => ∃ B c, e = .returned (.tuple #[.slice B r.length c, .int .i64 er]) ∧ Rd w' B (u64s r) ∧ Ext w w' := by
  have h1 := pRead_any ⟨s.toArray⟩ many w (by rw [str_size]; exact hs)
  rw [show (⟨s.toArray⟩ : ByteArray).data.toList = s from rfl, h] at h1
  exact h1
theorem pCost_of (l : List Nat) (A : Option Addr) (n cap : Nat) (wd : Int) (w : World) (hn : l.length = n) (hr : Rd w A (u64s l)) (hl : ∀ x ∈ l, x < 18446744073709551616) (hnl : n ≤ 9223372036854775806) (c er : Nat) (h : Pat.cos l wd = (c, er)) :
    Calls Try.prog 30 #[.slice A n cap, .int .i64 wd] w fun e w' => e = .returned (.tuple #[.int .i64 c, .int .i64 er]) ∧ Ext w w' := by
  have h1 := pCost_any l A n cap wd w hn hr hl hnl
  rw [h] at h1; exact h1
set_option maxRecDepth 100000 in
set_option maxHeartbeats 1000000 in
theorem patchBegun_any (w : World) : Calls Try.prog 34 #[] w fun e w' => e = .returned (.bool true) ∧ Ext w w' := by
  have H1 := hid (fun A n cap w hn hr hnl => pWrite_of _ _ _ A n cap w hn hr (by decide) hnl Pat.wrt_a)
  have H2 := hid (fun w => pRead_of _ _ w _ _ (by decide) Pat.rdP_a)
  have H3 := hid (fun A n cap w hn hr hnl => pCost_of _ A n cap _ w hn hr (by decide) hnl _ _ Pat.cos_a)
  have H4 := hid (fun w => pRead_of _ _ w _ _ (by decide) Pat.rdP_b)
  have H5 := hid (fun w => pRead_of _ _ w _ _ (by decide) Pat.rdP_c)
  have R0 := hid (rd_lit (w := w) (g := w.heap.size) (C := #[.int .u64 100, .int .u64 101, .int .u64 103, .int .u64 100, .int .u64 9999, .int .u64 102]) (e := 33) (fz := (0, 0)) (cs := u64s [100, 101, 103, 100, 9999, 102]) rfl rfl)
  go_enter Try.func34, Try.ntmps34
  go_wp2_with fail
  refine Calls.mono (H1.out _ 6 _ _ rfl R0.out (by decide)) ?_
  rintro e w1 ⟨rfl, hx⟩
  have X1 := hid (((ext_refl w).new _).then hx)
  replace R0 := hid (R0.out.keep hx)
  clear hx
  go_wp2_with fail
  refine Calls.mono (H2.out _) ?_
  rintro e w2 ⟨A2, c2, rfl, hr2, hx⟩
  replace R0 := hid (R0.out.keep hx)
  replace X1 := hid (X1.out.then hx)
  have R2 := hid hr2
  clear hx hr2
  go_wp2_with fail
  refine Calls.mono (H3.out _ 6 _ _ rfl R0.out (by decide)) ?_
  rintro e w3 ⟨rfl, hx⟩
  replace R0 := hid (R0.out.keep hx)
  replace R2 := hid (R2.out.keep hx)
  replace X1 := hid (X1.out.then hx)
  clear hx
  go_wp2_with fail
  refine Calls.mono (H4.out _) ?_
  rintro e w4 ⟨A4, c4, rfl, hr4, hx⟩
  replace R0 := hid (R0.out.keep hx)
  replace R2 := hid (R2.out.keep hx)
  replace X1 := hid (X1.out.then hx)
  clear hx hr4
  go_wp2_with fail
  refine Calls.mono (H5.out _) ?_
  rintro e w5 ⟨A5, c5, rfl, _, hx⟩
  replace R0 := hid (R0.out.keep hx)
  replace R2 := hid (R2.out.keep hx)
  replace X1 := hid (X1.out.then hx)
  clear hx
  go_wp2_with fail
  refine Calls.mono (sameNums_self _ _ _ 6 _ _ _ rfl R2.out R0.out (by decide)) ?_
  rintro e w6 ⟨rfl, hx⟩
  replace X1 := hid (X1.out.then hx)
  clear hx
  go_wp2
  go_returns
  exact ⟨rfl, X1.out⟩
end Go.Proofs.Ytdblegdbfdhepaa
