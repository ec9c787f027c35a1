/- RestCells: wrong cells; the whole. -/
import Derived.Test.YtikdmnedbfpkeaaNll
namespace Go.Proofs.Ytikdmnedbfpkeaa
open Go.RowKit Hy
set_option maxHeartbeats 4000000 in
set_option maxRecDepth 100000 in
theorem restCells_no (kind : Int) (l : List Cel) (B : Option Addr) (n cap : Nat) (w : World) (hn : l.length = n) (hr : Rd w B (cls l)) (hnn : B = none → n = 0) (hnl : n ≤ 4398046511104) (hj : Cel.cchk kind l ≠ 0) :
    Calls Try.prog 12 #[.int .i64 kind, .slice B n cap] w fun e w' => e = .returned (.bool true) ∧ Ext w w' := by
  obtain ⟨er, her⟩ : ∃ er, er = Cel.cchk kind l := ⟨_, rfl⟩
  have e2 : ((er : Int) != 0) = true := by rw [bne_iff_ne]; omega
  have e3 : ((er : Int) == 0) = false := by rw [beq_eq_false_iff_ne]; omega
  have HSP := hid (fun w' A c (h : Rd w' A (cls l)) => split_no kind A n c er w' e2 (hid (by have h2 := check_any kind l A n c w' hn h (by omega); rw [← her] at h2; exact h2)))
  have hjo : (Cel.jout kind [] []).length = 0 := by
    unfold Cel.jout
    split
    · rw [Cel.jn_len]; rfl
    · rfl
  have HJN := hid (fun w' => join_any kind [] [] none none 0 0 0 0 w' rfl (fun h => absurd h (by simp [bls])) rfl (fun h => absurd h (by simp [cls])) (Nat.le_refl _) (by omega) (by omega))
  rw [hjo] at HJN
  obtain ⟨jf, hjf⟩ : ∃ jf, jf = Cel.jchk kind [] [] := ⟨_, rfl⟩
  rw [← hjf] at HJN
  have HSC := hid (fun w' A c A' c' (h1 : Rd w' A (cls l)) (h2 : Rd w' A' (cls l)) => sameCells_any l l A A' n n c c' w' hn hn h1 h2 (by omega))
  simp only [decide_true] at HSC
  obtain ⟨cur0, hcur, hmk⟩ := cells_made n hnl w
  have HN := hid hn; have HR := hid hr; have HNN := hid hnn
  have hnI : (n : Int) ≤ 4398046511104 := by omega
  have HL := hid hnl
  have HCUR := hid hcur
  clear hr hn hj hjo hnn hnl hcur her hjf
  go_enter Try.func12, Try.ntmps12
  go_wp2_with (at_builtin; go_loud (refine wpList_app rfl (.tmp 16) (.tmp 17) rowCl rfl _ 0 [] rfl (World.ownsRow_made (base := w.heap.size) w cur0 (n + 1) (Nat.le_refl _) (by have := HL.out; unfold maxLen; omega) HCUR.out) _ n (cls l) rfl (Src.rd Try.underlying22 B n cap _ (by rw [cls_len, HN.out]) (HR.out.keep ((ext_refl _).new _)) (cls_one _) HNN.out) (by have := HL.out; unfold maxLen; omega) (by have := HL.out; omega) (by simp) ?_; intro v1 w1 hown1 hgr1 hat1 hbel1; have HO1 := hid hown1; have X1 : Hid (Ext w w1) := hid (Below.trans ((ext_refl w).new _) hbel1); clear hown1 hgr1 hat1 hbel1 hmk))
  refine Calls.mono (cNum_any _ _) ?_
  rintro e w2 ⟨rfl, hx⟩
  replace HO1 := hid (own_ext HO1.out hx)
  replace X1 := hid (X1.out.then hx)
  clear hx
  have hslF := hid (fun A c (h : n ≤ c) => fun wx : World => sl_to (P := Try.prog) (t := 22) (e := 25) (m := 3) Try.underlying22 (by kernel_rfl) A (n + 1) c .i64 n h wx)
  go_wp2_with (at_builtin; go_loud (refine wpList_app rfl (.tmp 18) (.tmp 20) rowCl rfl _ (0 + n) ([] ++ cls l) rfl (own_ext HO1.out (Ext.new (ext_refl _) _)) _ 1 (cls [(1, 77, ByteArray.empty)]) rfl (Src.rd Try.underlying22 _ 1 1 _ rfl (rd_lit rfl rfl) (cls_one _) (fun h => by cases h)) (by have := HL.out; unfold maxLen; omega) (by have := HL.out; omega) (Nat.le_trans X1.out.size (by simp)) ?_; intro v3 w3 hown3 hgr3 hat3 hbel3; have X3 : Hid (Ext w w3) := hid (Below.trans (Ext.new X1.out _) hbel3); clear hgr3 hat3 hbel3; rw [Nat.zero_add, List.nil_append, ← cls_app] at hown3; obtain ⟨A, c, rfl, hrd, hA, hc, hcm⟩ := Rd.owned hown3; have RM := hid hrd; have hcI : (n : Int) ≤ (c : Int) := (by omega); have hcI2 : (n : Int) + 1 ≤ (c : Int) := (by omega); have HCC := hid hc; have hsl := hslF.out A c (by omega); clear hown3 hrd hA hc hcm hslF HO1))
  have RP := hid (Rd.pre (ds := cls [(1, 77, ByteArray.empty)]) (by have := RM.out; rw [cls_app] at this; exact this))
  clear hsl
  refine Calls.mono (HSP.out _ _ _ RP.out) ?_
  rintro e w4 ⟨rfl, hx⟩
  have X6 := hid hx
  clear hx
  go_wp2_with fail
  refine Calls.mono (nullsBegun_any _) ?_
  rintro e w5 ⟨rfl, hx⟩
  replace X6 := hid (X6.out.then hx)
  clear hx
  go_wp2_with fail
  refine Calls.mono (HJN.out _) ?_
  rintro e w6 ⟨J, jc, rfl, -, hx⟩
  replace X6 := hid (X6.out.then hx)
  clear hx
  go_wp2
  refine wp_loop_rounds 1 ?_
  rw [rounds_succ]
  go_wp2
  refine wp_loop_rounds 1 ?_
  rw [rounds_succ]
  have RT := RM.out.keep X6.out
  have RT2 := hid (RP.out.keep X6.out)
  have RL := hid (HR.out.keep (X3.out.then X6.out))
  obtain ⟨b, o, rfl, lb, cb⟩ := RT.cels n (by rw [List.length_append, HN.out]; simp)
  have hq := cb n (by rw [List.length_append, HN.out]; simp)
  simp only [List.getElem_append_right (show l.length ≤ n from by rw [HN.out]; exact Nat.le_refl _), HN.out, Nat.sub_self, List.getElem_cons_zero] at hq
  have d0 := hq.1
  have d1 := hq.2.1
  have d2 := hq.2.2
  have d0r := cell_regrown d0
  have d1r := cell_regrown d1
  have d2r := cell_regrown d2
  have XE := hid (X3.out.then X6.out)
  have GS := from_quiet (W := w6) (fun w' hx => HSC.out w' (some ⟨b, o, none⟩) c B cap (RT2.out.keep hx) (RL.out.keep hx))
  have GN : Gives Try.prog 33 #[.int .u64 77] (.agg #[.int .i64 1, .int .u64 77, .string .empty]) := fun w => cNum_any 77 w
  have hsl := fun wx : World => sl_to (P := Try.prog) (t := 22) (e := 25) (m := 3) Try.underlying22 (by kernel_rfl) (some ⟨b, o, none⟩) n c .i64 (n + 1) HCC.out wx
  have hsl' : ∀ wx : World, (Instr.sliceAt 22 (.slice (some ⟨b, o, none⟩) n c) none (some (.int .i64 ((n : Int) + 1))) none).run Try.prog wx = .ok (.slice (some ⟨b, o, none⟩) (n + 1) c) wx := hsl
  have hwn : IntKind.i64.wrap ((n : Int) + 1) = (n : Int) + 1 := by rw [IntKind.wrap_i64]; omega
  have hwn2 : IntKind.i64.wrap (n : Int) = (n : Int) := by rw [IntKind.wrap_i64]; omega
  have hn0 : (0 : Int) ≤ (n : Int) := by omega
  have hn1 : (n : Int) < (n : Int) + 1 := by omega
  clear cb hq RT hsl lb
  go_wp2_with fail
  refine wp_region_quiet_below (by kernel_rfl) (by kernel_rfl) ?_
  repeat (go_big_quiet_step (first
    | (go_at_call 27; with_reducible exact GS _ _)
    | (go_at_call 33; with_reducible exact GN.quiet _ _ _)))
  refine wpQuiet_nil ?_
  intro w12 hw12
  have hx := (show Ext _ w12 from by obtain ⟨p, rfl⟩ := hw12; exact ext_regrown _ p)
  replace XE := hid (XE.out.then hx)
  clear hx hw12 d0 d1 d2 d0r d1r d2r hsl' hwn hwn2
  go_wp2
  go_returns
  exact ⟨rfl, XE.out⟩
theorem restCells_walk (kind : Int) (l : List Cel) (B : Option Addr) (n cap : Nat) (w : World) (hn : l.length = n) (hr : Rd w B (cls l)) (hnn : B = none → n = 0) (hnl : n ≤ 4398046511104) :
    Calls Try.prog 12 #[.int .i64 kind, .slice B n cap] w fun e w' => e = .returned (.bool true) ∧ Ext w w' := by
  by_cases hj : Cel.cchk kind l = 0
  · exact restCells_yes kind l B n cap w hn hr hnn hnl hj
  · exact restCells_no kind l B n cap w hn hr hnn hnl hj
end Go.Proofs.Ytikdmnedbfpkeaa
