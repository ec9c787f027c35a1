/- Stats: the document's KnownOf: walk. -/
import Derived.Test.YtikdmnedbfpkeaaStf
namespace Hy.Cel
/-- least, most of a list as the document says: not above any -/
def isLst (d : List Cel) (c : Cel) : Bool := d.all fun e => !less e c
def isMst (d : List Cel) (c : Cel) : Bool := d.all fun e => !less c e
def lst (d : List Cel) : List Cel → Cel
  | [] => O
  | c :: r => if isLst d c then (if r.any (isLst d) then lst d r else c) else lst d r
def pick (p : Cel → Bool) (m c : Cel) : Cel := if p c then c else m
@[irreducible] def known (l : List Cel) : Sta := (l.length, (l.length : Int) - (dense l).length, (dense l).foldl (pick (isLst (dense l))) O, (dense l).foldl (pick (isMst (dense l))) O)
theorem pick_take (p : Cel → Bool) (d : List Cel) (i : Nat) (h : i < d.length) : (d.take (i + 1)).foldl (pick p) O = pick p ((d.take i).foldl (pick p) O) d[i] := by
  rw [List.take_succ_eq_append_getElem h, List.foldl_append]; rfl
theorem all_take (f : Cel → Bool) (d : List Cel) (k : Nat) (h : k < d.length) : (d.take (k + 1)).all f = ((d.take k).all f && f d[k]) := by
  rw [List.take_succ_eq_append_getElem h, List.all_append]; simp
end Hy.Cel
namespace Go.Proofs.Ytikdmnedbfpkeaa
open Go.RowKit Hy
set_option maxHeartbeats 4000000 in
theorem knownOf_any (l : List Cel) (A : Option Addr) (n cap : Nat) (w : World) (hn : l.length = n) (hr : Rd w A (cls l)) (hnl : n ≤ 1000000) (hsz : ∀ c ∈ l, c.2.2.size ≤ 140737488355328) :
    Calls Try.prog 15 #[.slice A n cap] w fun e w' => e = .returned (staV (Cel.known l)) ∧ Ext w w' := by
  have HD := hid (fun w' (hx : Ext w w') => denseOf_any l A n cap w' hn (hr.keep hx) (by omega))
  have HSZ := hid (fun c (hc : c ∈ Cel.dense l) => hsz c ((List.mem_filter.1 hc).1))
  have hdl := Cel.dense_len l
  obtain ⟨R, hR⟩ : ∃ R, R = Cel.known l := ⟨_, rfl⟩
  rw [← hR]
  have HR := hid (show R = ((n : Int), (n : Int) - (Cel.dense l).length, (Cel.dense l).foldl (Cel.pick (Cel.isLst (Cel.dense l))) Cel.O, (Cel.dense l).foldl (Cel.pick (Cel.isMst (Cel.dense l))) Cel.O) by rw [hR]; unfold Cel.known; rw [hn])
  generalize Cel.dense l = d at *
  obtain ⟨m, hm⟩ : ∃ m, m = d.length := ⟨_, rfl⟩
  rw [← hm] at HD HR hdl
  have HM := hid hm
  have hnI : (n : Int) ≤ 1000000 := by omega
  have hmI : (m : Int) ≤ (n : Int) := by omega
  obtain ⟨q, hq⟩ : ∃ q : Int, q = (n : Int) - (m : Int) := ⟨_, rfl⟩
  have hnq : (n : Int) - (m : Int) = q := hq.symm
  have hq0 : 0 ≤ q ∧ q ≤ 1000000 := by omega
  obtain ⟨hqa, hqb⟩ := hq0
  rw [hnq] at HR
  have HX0 := hid (Ext.new (ext_refl w) (.cells #[.int .i64 0, .int .i64 0, .int .i64 0, .int .u64 0, .string .empty, .int .i64 0, .int .u64 0, .string .empty] 27))
  have HB0 := hid (Blk.new w 27 #[.int .i64 0, .int .i64 0, .int .i64 0, .int .u64 0, .string .empty, .int .i64 0, .int .u64 0, .string .empty])
  clear hn hr hnl hsz hdl hR hm hq
  go_enter Try.func15, Try.ntmps15
  go_wp2_with (go_at_call 28; refine (HD.out _ HX0.out).mono ?_; rintro e w1 ⟨B, c, rfl, hrd, hx⟩; have HRD := hid hrd; replace HX0 := hid (HX0.out.then hx); replace HB0 := hid (HB0.out.keep hx); clear hrd hx)
  go_loopw [5, 6, 7, 8] (fun c _ _ _ wr => ∃ i : Nat, i ≤ m ∧ c = .int .i64 i ∧ Blk wr w1.heap.size 27 (staA ((n : Int), q, (d.take i).foldl (Cel.pick (Cel.isLst d)) Cel.O, (d.take i).foldl (Cel.pick (Cel.isMst d)) Cel.O)) ∧ Ext w1 wr) (fun c _ _ _ _ => m - (intOf c).toNat)
  case atStart => exact ⟨0, Nat.zero_le _, rfl, Blk.new w1 _ _, Ext.new (ext_refl _) _⟩
  case round =>
    obtain ⟨i, hi, rfl, Bk, X⟩ := hrel
    by_cases hlt : i < m
    · have hia : i < d.length := by rw [← HM.out]; exact hlt
      obtain ⟨b1, o1, e1, l1, c1⟩ := HRD.out.cels i hia
      subst e1
      have HP1 := hid (Cel.pick_take (Cel.isLst d) d i hia)
      have HP2 := hid (Cel.pick_take (Cel.isMst d) d i hia)
      have HCI := hid (c1 i hia)
      have HCK := hid c1
      have HL1 := hid l1
      have HSI := hid (HSZ.out d[i] (List.getElem_mem hia))
      obtain ⟨ci, hci⟩ : ∃ ci, ci = d[i] := ⟨_, rfl⟩
      rw [← hci] at HP1 HP2 HCI HSI
      have HB := hid Bk
      generalize (d.take i).foldl (Cel.pick (Cel.isLst d)) Cel.O = S1 at *
      generalize (d.take i).foldl (Cel.pick (Cel.isMst d)) Cel.O = S2 at *
      clear hia c1 l1 hci Bk
      obtain ⟨k1, n1, s1⟩ := ci
      go_wp2
      go_loopw [6, 7, 8] (fun p r c wi => ∃ (k : Nat), k ≤ m ∧ c = .int .i64 k ∧ p = .bool ((d.take k).all fun e => !Cel.less e (k1, n1, s1)) ∧ r = .bool ((d.take k).all fun e => !Cel.less (k1, n1, s1) e) ∧ Ext wr wi) (fun _ _ c _ => m - (intOf c).toNat)
      case atStart => exact ⟨0, Nat.zero_le _, rfl, rfl, rfl, ext_refl _⟩
      case round =>
        obtain ⟨k, hk, rfl, rfl, rfl, XI⟩ := hrel
        by_cases hkl : k < m
        · have hka : k < d.length := by rw [← HM.out]; exact hkl
          have HA1 := hid (Cel.all_take (fun e => !Cel.less e (k1, n1, s1)) d k hka)
          have HA2 := hid (Cel.all_take (fun e => !Cel.less (k1, n1, s1) e) d k hka)
          have HCKK := hid (HCK.out k hka)
          have HSK := HSZ.out d[k] (List.getElem_mem hka)
          obtain ⟨ck, hck⟩ : ∃ ck, ck = d[k] := ⟨_, rfl⟩
          rw [← hck] at HA1 HA2 HCKK HSK
          have G1 : Gives Try.prog 32 #[celV ck, celV (k1, n1, s1)] (.bool (Cel.less ck (k1, n1, s1))) := fun w => cellLess_any ck (k1, n1, s1) w HSK HSI.out
          have G2 : Gives Try.prog 32 #[celV (k1, n1, s1), celV ck] (.bool (Cel.less (k1, n1, s1) ck)) := fun w => cellLess_any (k1, n1, s1) ck w HSI.out HSK
          obtain ⟨L1, hL1⟩ : ∃ L, L = Cel.less ck (k1, n1, s1) := ⟨_, rfl⟩
          obtain ⟨L2, hL2⟩ : ∃ L, L = Cel.less (k1, n1, s1) ck := ⟨_, rfl⟩
          rw [← hL1] at G1 HA1
          rw [← hL2] at G2 HA2
          generalize ((d.take k).all fun e => !Cel.less e (k1, n1, s1)) = P at *
          generalize ((d.take k).all fun e => !Cel.less (k1, n1, s1) e) = Q at *
          obtain ⟨k2, n2, s2⟩ := ck
          clear hka hck hL1 hL2 HSK
          simp only [celV] at G1 G2
          have di0 := ((X.then XI).cell (p := ⟨b1, o1 + i * 3, none⟩) HL1.out).trans HCI.out.1
          have di1 := ((X.then XI).cell (p := ⟨b1, o1 + i * 3 + 1, none⟩) HL1.out).trans HCI.out.2.1
          have di2 := ((X.then XI).cell (p := ⟨b1, o1 + i * 3 + 2, none⟩) HL1.out).trans HCI.out.2.2
          have dk0 := ((X.then XI).cell (p := ⟨b1, o1 + k * 3, none⟩) HL1.out).trans HCKK.out.1
          have dk1 := ((X.then XI).cell (p := ⟨b1, o1 + k * 3 + 1, none⟩) HL1.out).trans HCKK.out.2.1
          have dk2 := ((X.then XI).cell (p := ⟨b1, o1 + k * 3 + 2, none⟩) HL1.out).trans HCKK.out.2.2
          have di0r := cell_regrown di0
          have di1r := cell_regrown di1
          have di2r := cell_regrown di2
          have dk0r := cell_regrown dk0
          have dk1r := cell_regrown dk1
          have dk2r := cell_regrown dk2
          cases P <;> cases Q
          all_goals (
            go_wp2_with fail
            refine wp_region_quiet_below (by kernel_rfl) (by kernel_rfl) ?_
            repeat (go_big_quiet_step (first | (go_at_call 32; with_reducible exact G1.quiet _ _ _)))
            refine wpQuiet_nil ?_
            intro w8 hw8
            have X8 : Ext wr w8 := by obtain ⟨p, rfl⟩ := hw8; exact ext_regrown _ p
            replace XI := XI.then X8
            clear hw8 X8 di0 di1 di2 dk0 dk1 dk2 di0r di1r di2r dk0r dk1r dk2r
            have di0 := ((X.then XI).cell (p := ⟨b1, o1 + i * 3, none⟩) HL1.out).trans HCI.out.1
            have di1 := ((X.then XI).cell (p := ⟨b1, o1 + i * 3 + 1, none⟩) HL1.out).trans HCI.out.2.1
            have di2 := ((X.then XI).cell (p := ⟨b1, o1 + i * 3 + 2, none⟩) HL1.out).trans HCI.out.2.2
            have dk0 := ((X.then XI).cell (p := ⟨b1, o1 + k * 3, none⟩) HL1.out).trans HCKK.out.1
            have dk1 := ((X.then XI).cell (p := ⟨b1, o1 + k * 3 + 1, none⟩) HL1.out).trans HCKK.out.2.1
            have dk2 := ((X.then XI).cell (p := ⟨b1, o1 + k * 3 + 2, none⟩) HL1.out).trans HCKK.out.2.2
            have di0r := cell_regrown di0
            have di1r := cell_regrown di1
            have di2r := cell_regrown di2
            have dk0r := cell_regrown dk0
            have dk1r := cell_regrown dk1
            have dk2r := cell_regrown dk2
            go_wp2_with fail
            refine wp_region_quiet_below (by kernel_rfl) (by kernel_rfl) ?_
            repeat (go_big_quiet_step (first | (go_at_call 32; with_reducible exact G2.quiet _ _ _)))
            refine wpQuiet_nil ?_
            intro w9 hw8
            have X8 : Ext w8 w9 := by obtain ⟨p, rfl⟩ := hw8; exact ext_regrown _ p
            replace XI := XI.then X8
            clear hw8 X8 di0 di1 di2 dk0 dk1 dk2 di0r di1r di2r dk0r dk1r dk2r
            go_wp2
            go_roundw
            case rel => exact ⟨k + 1, by omega, by go_num, by rw [HA1.out]; simp, by rw [HA2.out]; simp, XI⟩
            case measure => simp [intOf]; omega)

        · obtain rfl : k = m := by omega
          have e : d.take k = d := List.take_of_length_le (by rw [← HM.out]; exact Nat.le_refl _)
          rw [e]
          obtain ⟨P, hP⟩ : ∃ P, P = Cel.isLst d (k1, n1, s1) := ⟨_, rfl⟩
          obtain ⟨Q, hQ⟩ : ∃ Q, Q = Cel.isMst d (k1, n1, s1) := ⟨_, rfl⟩
          rw [show (d.all fun e => !Cel.less e (k1, n1, s1)) = P from hP.symm, show (d.all fun e => !Cel.less (k1, n1, s1) e) = Q from hQ.symm]
          have HPP := hid hP
          have HQQ := hid hQ
          have HBk := hid (HB.out.keep XI)
          have XW := hid (X.then XI)
          have di0 := (XW.out.cell (p := ⟨b1, o1 + i * 3, none⟩) HL1.out).trans HCI.out.1
          have di1 := (XW.out.cell (p := ⟨b1, o1 + i * 3 + 1, none⟩) HL1.out).trans HCI.out.2.1
          have di2 := (XW.out.cell (p := ⟨b1, o1 + i * 3 + 2, none⟩) HL1.out).trans HCI.out.2.2
          obtain ⟨a1, a2, a3⟩ := S1
          obtain ⟨z1, z2, z3⟩ := S2
          clear hP hQ HB X XI e
          cases P with
          | false =>
            cases Q with
            | false =>
              go_wp2
              go_roundw
              case rel => exact ⟨i + 1, by omega, by go_num, by rw [HP1.out, HP2.out, Cel.pick, Cel.pick, ← HPP.out, ← HQQ.out]; exact HBk.out, XW.out⟩
              case measure => simp [intOf]; omega
            | true =>
              go_wp2_with (first
                | (with_reducible (show wpList _ _ _ (⟨none, .store 25 (.tmp 68) (.tmp 67), _, _, _, _⟩ :: _) _ _); go_loud (refine wpList_store_part rfl 25 (.tmp 68) (.tmp 67) rfl w1.heap.size 5 #[.int .i64 k1, .int .u64 (n1 : Int), .string s1] #[.int .i64 (n : Int), .int .i64 q, .int .i64 a1, .int .u64 (a2 : Int), .string a3, .int .i64 k1, .int .u64 (n1 : Int), .string s1] rfl rfl 27 _ HBk.out (by kernel_rfl) (by simp) (by simp [Value.oneCell']) (by simp) w1.heap.size (Nat.le_refl _) ?_; intro w6 hB6 hF6 hL6; replace HBk := hid hB6; replace XW : Hid (Ext w1 w6) := hid (XW.out.trans hL6); clear hB6 hF6 hL6 di0 di1 di2; have di0 := (XW.out.cell (p := ⟨b1, o1 + i * 3, none⟩) HL1.out).trans HCI.out.1; have di1 := (XW.out.cell (p := ⟨b1, o1 + i * 3 + 1, none⟩) HL1.out).trans HCI.out.2.1; have di2 := (XW.out.cell (p := ⟨b1, o1 + i * 3 + 2, none⟩) HL1.out).trans HCI.out.2.2)))
              go_roundw
              case rel => exact ⟨i + 1, by omega, by go_num, by rw [HP1.out, HP2.out, Cel.pick, Cel.pick, ← HPP.out, ← HQQ.out]; exact HBk.out, XW.out⟩
              case measure => simp [intOf]; omega
          | true =>
            cases Q with
            | false =>
              go_wp2_with (first
                | (with_reducible (show wpList _ _ _ (⟨none, .store 25 (.tmp 62) (.tmp 61), _, _, _, _⟩ :: _) _ _); go_loud (refine wpList_store_part rfl 25 (.tmp 62) (.tmp 61) rfl w1.heap.size 2 #[.int .i64 k1, .int .u64 (n1 : Int), .string s1] #[.int .i64 (n : Int), .int .i64 q, .int .i64 k1, .int .u64 (n1 : Int), .string s1, .int .i64 z1, .int .u64 (z2 : Int), .string z3] rfl rfl 27 _ HBk.out (by kernel_rfl) (by simp) (by simp [Value.oneCell']) (by simp) w1.heap.size (Nat.le_refl _) ?_; intro w6 hB6 hF6 hL6; replace HBk := hid hB6; replace XW : Hid (Ext w1 w6) := hid (XW.out.trans hL6); clear hB6 hF6 hL6 di0 di1 di2; have di0 := (XW.out.cell (p := ⟨b1, o1 + i * 3, none⟩) HL1.out).trans HCI.out.1; have di1 := (XW.out.cell (p := ⟨b1, o1 + i * 3 + 1, none⟩) HL1.out).trans HCI.out.2.1; have di2 := (XW.out.cell (p := ⟨b1, o1 + i * 3 + 2, none⟩) HL1.out).trans HCI.out.2.2)))
              go_roundw
              case rel => exact ⟨i + 1, by omega, by go_num, by rw [HP1.out, HP2.out, Cel.pick, Cel.pick, ← HPP.out, ← HQQ.out]; exact HBk.out, XW.out⟩
              case measure => simp [intOf]; omega
            | true =>
              go_wp2_with (first
                | (with_reducible (show wpList _ _ _ (⟨none, .store 25 (.tmp 62) (.tmp 61), _, _, _, _⟩ :: _) _ _); go_loud (refine wpList_store_part rfl 25 (.tmp 62) (.tmp 61) rfl w1.heap.size 2 #[.int .i64 k1, .int .u64 (n1 : Int), .string s1] #[.int .i64 (n : Int), .int .i64 q, .int .i64 k1, .int .u64 (n1 : Int), .string s1, .int .i64 z1, .int .u64 (z2 : Int), .string z3] rfl rfl 27 _ HBk.out (by kernel_rfl) (by simp) (by simp [Value.oneCell']) (by simp) w1.heap.size (Nat.le_refl _) ?_; intro w6 hB6 hF6 hL6; replace HBk := hid hB6; replace XW : Hid (Ext w1 w6) := hid (XW.out.trans hL6); clear hB6 hF6 hL6 di0 di1 di2; have di0 := (XW.out.cell (p := ⟨b1, o1 + i * 3, none⟩) HL1.out).trans HCI.out.1; have di1 := (XW.out.cell (p := ⟨b1, o1 + i * 3 + 1, none⟩) HL1.out).trans HCI.out.2.1; have di2 := (XW.out.cell (p := ⟨b1, o1 + i * 3 + 2, none⟩) HL1.out).trans HCI.out.2.2))
                | (with_reducible (show wpList _ _ _ (⟨none, .store 25 (.tmp 68) (.tmp 67), _, _, _, _⟩ :: _) _ _); go_loud (refine wpList_store_part rfl 25 (.tmp 68) (.tmp 67) rfl w1.heap.size 5 #[.int .i64 k1, .int .u64 (n1 : Int), .string s1] #[.int .i64 (n : Int), .int .i64 q, .int .i64 k1, .int .u64 (n1 : Int), .string s1, .int .i64 k1, .int .u64 (n1 : Int), .string s1] rfl rfl 27 _ HBk.out (by kernel_rfl) (by simp) (by simp [Value.oneCell']) (by simp) w1.heap.size (Nat.le_refl _) ?_; intro w6 hB6 hF6 hL6; replace HBk := hid hB6; replace XW : Hid (Ext w1 w6) := hid (XW.out.trans hL6); clear hB6 hF6 hL6 di0 di1 di2; have di0 := (XW.out.cell (p := ⟨b1, o1 + i * 3, none⟩) HL1.out).trans HCI.out.1; have di1 := (XW.out.cell (p := ⟨b1, o1 + i * 3 + 1, none⟩) HL1.out).trans HCI.out.2.1; have di2 := (XW.out.cell (p := ⟨b1, o1 + i * 3 + 2, none⟩) HL1.out).trans HCI.out.2.2)))
              go_roundw
              case rel => exact ⟨i + 1, by omega, by go_num, by rw [HP1.out, HP2.out, Cel.pick, Cel.pick, ← HPP.out, ← HQQ.out]; exact HBk.out, XW.out⟩
              case measure => simp [intOf]; omega
    · obtain rfl : i = m := by omega
      have e : d.take i = d := List.take_of_length_le (by rw [← HM.out]; exact Nat.le_refl _)
      rw [e] at Bk
      obtain ⟨S1, hS1⟩ : ∃ S, S = d.foldl (Cel.pick (Cel.isLst d)) Cel.O := ⟨_, rfl⟩
      obtain ⟨S2, hS2⟩ : ∃ S, S = d.foldl (Cel.pick (Cel.isMst d)) Cel.O := ⟨_, rfl⟩
      rw [← hS1, ← hS2] at Bk HR
      obtain ⟨a1, a2, a3⟩ := S1
      obtain ⟨z1, z2, z3⟩ := S2
      have HBK := hid Bk
      obtain ⟨⟨p0, p1, p2, p3⟩, p4, p5, p6, p7⟩ := Bk.c8
      have HB9 := hid (HB0.out.keep X)
      clear Bk e hS1 hS2
      go_wp2_with (with_reducible (show wpList _ _ _ (⟨none, .store 27 (.tmp 2) (.tmp 69), _, _, _, _⟩ :: _) _ _); go_loud (refine wpList_store_blk rfl 27 (.tmp 2) (.tmp 69) rfl w.heap.size #[.int .i64 (n : Int), .int .i64 q, .int .i64 a1, .int .u64 (a2 : Int), .string a3, .int .i64 z1, .int .u64 (z2 : Int), .string z3] rfl rfl 27 _ HB9.out (by kernel_rfl) rfl (by simp [Value.oneCell']) w.heap.size (Nat.le_refl _) ?_; intro w6 hB6 hF6 hL6; have HB6 := hid hB6; have X6 : Hid (Ext w w6) := hid ((HX0.out.then X).trans hL6); clear hB6 hF6 hL6))
      refine bodyPost_ret (results_blk rfl _ _ w.heap.size 27 _ _ rfl HB6.out Try.underlying27 rfl (by kernel_rfl)) rfl ?_
      exact ⟨by rw [HR.out] <;> rfl, X6.out⟩
end Go.Proofs.Ytikdmnedbfpkeaa
