/- Front: the document's FrontOf: walk. -/
import Derived.Test.YtgobnpogmghgkaaRows
import Derived.Test.YtgobnpogmghgkaaFre
import Derived.Test.YtgobnpogmghgkaaFrc
import Derived.Test.YtgobnpogmghgkaaVvo
namespace Go.Proofs.Ytgobnpogmghgkaa
open Go.RowKit Hy
set_option maxRecDepth 3000 in
set_option maxHeartbeats 3200000 in
theorem frontOf_any (s0 : ByteArray) (many : Int) (w : World) (hs : s0.size ≤ 281474976710656) :
    Calls Try.prog 22 #[.string s0, .int .i64 many] w (TextsOut (Front.rdl s0.data.toList many).1 (Front.rdl s0.data.toList many).2 w) := by
  by_cases h1 : many < 0
  · rw [Front.rdl_neg h1]
    go_enter Try.func22, Try.ntmps22
    go_wp2
    go_returns
    exact ⟨none, 0, rfl, fun h => by simp [txs] at h, ext_refl _⟩
  · by_cases h2 : 64 < many
    · rw [Front.rdl_many h2]
      go_enter Try.func22, Try.ntmps22
      go_wp2
      go_returns
      exact ⟨none, 0, rfl, fun h => by simp [txs] at h, ext_refl _⟩
    · obtain ⟨mm, rfl⟩ := Int.eq_ofNat_of_zero_le (show 0 ≤ many by omega)
      have hm : mm ≤ 64 := by omega
      have hmI : (mm : Int) ≤ 64 := by omega
      obtain ⟨M, hM⟩ : ∃ M, M = Front.rds mm s0.data.toList [] := ⟨_, rfl⟩
      have HR : Hid (Front.rdl s0.data.toList mm = if M.2 = 0 then M else ([], M.2)) := by rw [hM]; exact hid (Front.rdl_in hm)
      have HM := hid hM
      have hs0 : s0.data.toList.length = s0.size := Array.length_toList
      have HS0 := hid hs0
      have HSS := hid hs
      generalize Front.rdl s0.data.toList mm = R at *
      clear hM h1 h2 hs0 hs
      go_enter Try.func22, Try.ntmps22
      go_wp2
      go_loopw [0, 6, 7, 8, 9, 10, 11, 12, 13] (fun sv lv v _ _ _ _ _ _ wr => ∃ (acc : List (List UInt8)) (s last : List UInt8), acc.length ≤ mm ∧ sv = .string ⟨s.toArray⟩ ∧ lv = .string ⟨last.toArray⟩ ∧ Hid (M = (acc ++ (Front.rds (mm - acc.length) s last).1, (Front.rds (mm - acc.length) s last).2)) ∧ s.length ≤ 281474976710656 ∧ last.length ≤ 16 ∧ wr.ownsRow w.heap.size 9 1 v acc.length (txs acc) ∧ Ext w wr) (fun _ _ v _ _ _ _ _ _ _ => match v with | .slice _ n _ => mm - n | _ => 0)
      case atStart => exact ⟨[], s0.data.toList, [], Nat.zero_le _, by simp, rfl, hid (by rw [HM.out]; rfl), by rw [HS0.out]; exact HSS.out, Nat.zero_le _, World.ownsRow_nil _ _ _ _, ext_refl _⟩
      case round =>
        obtain ⟨acc, s, last, hk, rfl, rfl, HI, hs, hl, hown, X⟩ := hrel
        obtain ⟨A, cap, rfl, hrdd, hA, _⟩ := Rd.owned hown
        have HO := hid hown
        have HRD := hid hrdd
        clear hown hrdd hA
        obtain ⟨S, hS⟩ : ∃ S : ByteArray, S = ⟨s.toArray⟩ := ⟨_, rfl⟩
        obtain ⟨LL, hLL⟩ : ∃ LL : ByteArray, LL = ⟨last.toArray⟩ := ⟨_, rfl⟩
        have hSs : S.size = s.length := by rw [hS, str_size]
        have hLs : LL.size = last.length := by rw [hLL, str_size]
        have HSd := hid (show S.data.toList = s by rw [hS])
        have HLd := hid (show LL.data.toList = last by rw [hLL])
        rw [← hS, ← hLL]
        clear hS hLL
        have hLI : (LL.size : Int) ≤ 16 := by omega
        have hSI : (S.size : Int) ≤ 281474976710656 := by omega
        by_cases hlt : acc.length < mm
        · have hltI : (acc.length : Int) < (mm : Int) := by omega
          have hj : mm - acc.length = mm - (acc.length + 1) + 1 := by omega
          have e2 := HI.out
          rw [hj] at e2
          have HE2 := hid e2
          clear e2 HI hj
          obtain ⟨n, k, e, hr1⟩ : ∃ n k e, Vary.rd s = (n, k, e) := ⟨_, _, _, rfl⟩
          have C1 : ∀ wx : World, Hid (Calls Try.prog 41 #[.string S] wx fun e' w' => e' = .returned (.tuple #[.int .u64 n, .int .i64 k, .int .i64 e]) ∧ Ext wx w') := fun wx => by
            have := varyOf_any S wx (by omega)
            rw [HSd.out, hr1] at this
            exact hid this
          by_cases he : e = 0
          · subst he
            obtain ⟨r1, r2, r3, r4, _⟩ := Vary.rd_ok (s := s) (by rw [hr1])
            rw [hr1] at r1 r2 r3 r4
            simp only at r1 r2 r3 r4
            have hT := fun wx : World => run_from (P := Try.prog) (w := wx) Try.underlying9 S .i64 k (by omega)
            rw [HSd.out] at hT
            obtain ⟨S1, hS1⟩ : ∃ S1 : ByteArray, S1 = ⟨(s.drop k).toArray⟩ := ⟨_, rfl⟩
            rw [← hS1] at hT
            have hS1s : S1.size + k = S.size := by rw [hS1, str_size, List.length_drop]; omega
            obtain ⟨m, j, f, hr2⟩ : ∃ m j f, Vary.rd (s.drop k) = (m, j, f) := ⟨_, _, _, rfl⟩
            have C2 : ∀ wx : World, Hid (Calls Try.prog 41 #[.string S1] wx fun e' w' => e' = .returned (.tuple #[.int .u64 m, .int .i64 j, .int .i64 f]) ∧ Ext wx w') := fun wx => by
              have := varyOf_any S1 wx (by omega)
              rw [show S1.data.toList = s.drop k from by rw [hS1], hr2] at this
              exact hid this
            by_cases hf : f = 0
            · subst hf
              obtain ⟨q1, q2, q3, q4, _⟩ := Vary.rd_ok (s := s.drop k) (by rw [hr2])
              rw [hr2] at q1 q2 q3 q4
              simp only at q1 q2 q3 q4
              rw [List.length_drop] at q2
              have hT2 := fun wx : World => run_from (P := Try.prog) (w := wx) Try.underlying9 S .i64 (k + j) (by omega)
              rw [HSd.out, ← List.drop_drop] at hT2
              simp only [Int.natCast_add] at hT2
              obtain ⟨x, hx2⟩ : ∃ x, x = (s.drop k).drop j := ⟨_, rfl⟩
              rw [← hx2] at hT2
              obtain ⟨XX, hXX⟩ : ∃ XX : ByteArray, XX = ⟨x.toArray⟩ := ⟨_, rfl⟩
              rw [← hXX] at hT2
              have hXs : XX.size = x.length := by rw [hXX, str_size]
              have hXl : x.length ≤ s.length := by rw [hx2, List.length_drop, List.length_drop]; omega
              have HXd := hid (show XX.data.toList = x by rw [hXX])
              have hkI : (k : Int) ≤ 9 := by omega
              have hjI : (j : Int) ≤ 9 := by omega
              have hXI : (XX.size : Int) ≤ 281474976710656 := by omega
              have hnI : (n : Int) ≤ 18446744073709551615 := by omega
              have hmI2 : (m : Int) ≤ 18446744073709551615 := by omega
              clear r1 r2 r3 q1 q2 q3 hXX hS1 hS1s
              by_cases g1 : last.length < n
              · have HTX := hid (Front.txt_3 (last := last) hr1 rfl hr2 g1)
                have HE := hid (show R = ([], 3) by rw [HR.out, HE2.out, Front.rds_bad HTX.out (by decide)]; simp)
                have g1I : (LL.size : Int) < (n : Int) := by omega
                clear hr1 hr2 hx2 g1 hl hs hLs hSs hXs hXl HE2 HR r4 q4 hk hlt hm
                go_wp2_with (first
                  | (go_at_call 41; first
                      | (refine (C1 _).out.mono ?_; rintro e w1 ⟨rfl, b1⟩; have X1 := hid (X.then b1); have O1 := hid (own_ext HO.out b1); clear b1 C1)
                      | (refine (C2 _).out.mono ?_; rintro e w2 ⟨rfl, b2⟩; have X2 := hid (X1.out.then b2); have O2 := hid (own_ext O1.out b2); clear b2 C2)))
                go_returns
                exact ⟨none, 0, by rw [HE.out]; rfl, fun h => by rw [HE.out] at h; simp [txs] at h, X2.out⟩
              · have g1I : (n : Int) ≤ (LL.size : Int) := by omega
                have hn16 : (n : Int) ≤ 16 := by omega
                by_cases g2 : 16 - n < m
                · by_cases g22 : 16 < m
                  · have HTX := hid (Front.txt_4 (last := last) hr1 rfl hr2 g1 g2)
                    have HE := hid (show R = ([], 2) by rw [HR.out, HE2.out, Front.rds_bad HTX.out (by decide)]; simp)
                    have g2I : (16 : Int) < (m : Int) := by omega
                    clear hr1 hr2 hx2 g1 g2 g22 hl hs hLs hSs hXs hXl HE2 HR r4 q4 hk hlt hm
                    go_wp2_with (first
                      | (go_at_call 41; first
                          | (refine (C1 _).out.mono ?_; rintro e w1 ⟨rfl, b1⟩; have X1 := hid (X.then b1); have O1 := hid (own_ext HO.out b1); clear b1 C1)
                          | (refine (C2 _).out.mono ?_; rintro e w2 ⟨rfl, b2⟩; have X2 := hid (X1.out.then b2); have O2 := hid (own_ext O1.out b2); clear b2 C2)))
                    go_returns
                    exact ⟨none, 0, by rw [HE.out]; rfl, fun h => by rw [HE.out] at h; simp [txs] at h, X2.out⟩
                  · have HTX := hid (Front.txt_4 (last := last) hr1 rfl hr2 g1 g2)
                    have HE := hid (show R = ([], 2) by rw [HR.out, HE2.out, Front.rds_bad HTX.out (by decide)]; simp)
                    have g2I : (m : Int) ≤ 16 := by omega
                    have g2J : (16 : Int) < (n : Int) + (m : Int) := by omega
                    clear hr1 hr2 hx2 g1 g2 g22 hl hs hLs hSs hXs hXl HE2 HR r4 q4 hk hlt hm
                    go_wp2_with (first
                      | (go_at_call 41; first
                          | (refine (C1 _).out.mono ?_; rintro e w1 ⟨rfl, b1⟩; have X1 := hid (X.then b1); have O1 := hid (own_ext HO.out b1); clear b1 C1)
                          | (refine (C2 _).out.mono ?_; rintro e w2 ⟨rfl, b2⟩; have X2 := hid (X1.out.then b2); have O2 := hid (own_ext O1.out b2); clear b2 C2)))
                    go_returns
                    exact ⟨none, 0, by rw [HE.out]; rfl, fun h => by rw [HE.out] at h; simp [txs] at h, X2.out⟩
                · have g2I : (n : Int) + (m : Int) ≤ (16 : Int) := by omega
                  have hm16 : (m : Int) ≤ 16 := by omega
                  by_cases g3 : x.length < m
                  · have HTX := hid (Front.txt_5 (last := last) hr1 rfl hr2 g1 g2 rfl (by rw [← hx2]; exact g3))
                    have HE := hid (show R = ([], 5) by rw [HR.out, HE2.out, Front.rds_bad HTX.out (by decide)]; simp)
                    have g3I : (XX.size : Int) < (m : Int) := by omega
                    clear hr1 hr2 hx2 g1 g2 g3 hl hs hLs hSs hXs hXl HE2 HR r4 q4 hk hlt hm
                    go_wp2_with (first
                      | (go_at_call 41; first
                          | (refine (C1 _).out.mono ?_; rintro e w1 ⟨rfl, b1⟩; have X1 := hid (X.then b1); have O1 := hid (own_ext HO.out b1); clear b1 C1)
                          | (refine (C2 _).out.mono ?_; rintro e w2 ⟨rfl, b2⟩; have X2 := hid (X1.out.then b2); have O2 := hid (own_ext O1.out b2); clear b2 C2)))
                    go_returns
                    exact ⟨none, 0, by rw [HE.out]; rfl, fun h => by rw [HE.out] at h; simp [txs] at h, X2.out⟩
                  · have g3I : (m : Int) ≤ (XX.size : Int) := by omega
                    have i1 := fun wx : World => run_to (P := Try.prog) (w := wx) Try.underlying9 LL .u64 n (by omega)
                    have i2 := fun wx : World => run_to (P := Try.prog) (w := wx) Try.underlying9 XX .u64 m (by omega)
                    have i3 := fun wx : World => run_from (P := Try.prog) (w := wx) Try.underlying9 XX .u64 m (by omega)
                    rw [HLd.out] at i1
                    rw [HXd.out] at i2 i3
                    obtain ⟨LT, hLT⟩ : ∃ LT : ByteArray, LT = ⟨(last.take n).toArray⟩ := ⟨_, rfl⟩
                    obtain ⟨XT, hXT⟩ : ∃ XT : ByteArray, XT = ⟨(x.take m).toArray⟩ := ⟨_, rfl⟩
                    obtain ⟨XD, hXD⟩ : ∃ XD : ByteArray, XD = ⟨(x.drop m).toArray⟩ := ⟨_, rfl⟩
                    rw [← hLT] at i1
                    rw [← hXT] at i2
                    rw [← hXD] at i3
                    have hLTs : LT.size ≤ 16 := by rw [hLT, str_size, List.length_take]; omega
                    have hXTs : XT.size ≤ 16 := by rw [hXT, str_size, List.length_take]; omega
                    have HTT := hid (show LT ++ XT = ⟨(last.take n ++ x.take m).toArray⟩ by rw [hLT, hXT, str_app])
                    have HTL := hid (show (last.take n ++ x.take m).length ≤ 16 by rw [List.length_append, List.length_take, List.length_take]; omega)
                    have HXDD := hid hXD
                    have HXL2 := hid (show (x.drop m).length ≤ 281474976710656 by rw [List.length_drop]; omega)
                    obtain ⟨z, hz⟩ : ∃ z, z = Front.shr last (last.take n ++ x.take m) := ⟨_, rfl⟩
                    have CS : ∀ wx : World, Hid (Calls Try.prog 20 #[.string LL, .string (LT ++ XT)] wx fun e w' => e = .returned (.int .i64 z) ∧ Ext wx w') := fun wx => by
                      have := sharedOf_any LL (LT ++ XT) wx (by omega)
                      rw [HLd.out, HTT.out, ← hz] at this
                      rw [HTT.out]
                      exact hid this
                    have HACI := hid (show acc.length ≤ 64 by omega)
                    by_cases g4 : z = n
                    · have HTX := hid (Front.txt_7 (last := last) hr1 rfl hr2 g1 g2 rfl (by rw [← hx2]; exact g3) (by rw [← hx2, ← hz, g4]))
                      rw [← hx2] at HTX
                      obtain ⟨T, hT7⟩ : ∃ T, T = last.take n ++ x.take m := ⟨_, rfl⟩
                      rw [← hT7] at HTX HTT HTL
                      have HE := hid (show M = ((acc ++ [T]) ++ (Front.rds (mm - (acc ++ [T]).length) (x.drop m) T).1, (Front.rds (mm - (acc ++ [T]).length) (x.drop m) T).2) by
                        rw [HE2.out, Front.rds_ok HTX.out]; simp)
                      have HLT := hid hlt
                      subst g4
                      clear hz hLT hXT hXD hT7 g1 g2 g3
                      clear hr1 hr2 hx2 hl hs hLs hSs hXs hXl HE2 HR r4 q4 hk hlt hm
                      go_wp2_with (first
                        | (go_at_call 41; first
                            | (refine (C1 _).out.mono ?_; rintro e w1 ⟨rfl, b1⟩; have X1 := hid (X.then b1); have O1 := hid (own_ext HO.out b1); clear b1 C1)
                            | (refine (C2 _).out.mono ?_; rintro e w2 ⟨rfl, b2⟩; have X2 := hid (X1.out.then b2); have O2 := hid (own_ext O1.out b2); clear b2 C2)))
                      go_quiet (fail)
                      go_wp2_with (first
                        | (go_at_call 20; refine (CS _).out.mono ?_; rintro e w3 ⟨rfl, b3⟩; have X3 := hid ((X2.out.draws _).then b3); have O3 := hid (own_ext O2.out (Ext.then ((ext_refl _).draws _) b3)); clear b3)
                        | (at_builtin; go_loud (refine wpList_app rfl (.tmp 78) (.tmp 80) rowTx rfl _ acc.length _ rfl (O3.out.alloc _) _ 1 (txs [T]) rfl (Src.rd Try.underlying22 _ 1 1 _ rfl (rd_lit rfl (by rw [HTT.out]; rfl)) (txs_one _) (fun h => by cases h)) (by have := HACI.out; unfold maxLen; omega) (by have := HACI.out; omega) (by have := X3.out.size; simp; omega) ?_; intro v' w4 hown4 hgrow hat hbel; have O4 := hid hown4; have X4 : Hid (Ext w w4) := hid ((Ext.new X3.out _).trans hbel); obtain ⟨A4, c4, rfl, _⟩ := Rd.owned hown4; clear hown4 hgrow hat hbel)))
                      go_roundw
                      case rel => exact ⟨acc ++ [T], x.drop m, T, by rw [List.length_append]; exact HLT.out, by rw [HXDD.out], by rw [HTT.out], HE, HXL2.out, HTL.out, by rw [txs_app, List.length_append]; exact O4.out, X4.out⟩
                      case measure => have := HLT.out; simp; omega
                    · have h3 : ((z : Int) != (n : Int)) = true := by rw [bne_iff_ne]; omega
                      have h4 : ((z : Int) == (n : Int)) = false := by rw [beq_eq_false_iff_ne]; omega
                      have HTX := hid (Front.txt_6 (last := last) hr1 rfl hr2 g1 g2 rfl (by rw [← hx2]; exact g3) (by rw [← hx2, ← hz]; exact g4))
                      have HE := hid (show R = ([], 1) by rw [HR.out, HE2.out, Front.rds_bad HTX.out (by decide)]; simp)
                      clear hz hLT hXT hXD
                      clear hr1 hr2 hx2 g1 g2 g3 g4 hl hs hLs hSs hXs hXl HE2 HR r4 q4 hk hlt hm
                      go_wp2_with (first
                        | (go_at_call 41; first
                            | (refine (C1 _).out.mono ?_; rintro e w1 ⟨rfl, b1⟩; have X1 := hid (X.then b1); have O1 := hid (own_ext HO.out b1); clear b1 C1)
                            | (refine (C2 _).out.mono ?_; rintro e w2 ⟨rfl, b2⟩; have X2 := hid (X1.out.then b2); have O2 := hid (own_ext O1.out b2); clear b2 C2)))
                      go_quiet (fail)
                      go_wp2_with (go_at_call 20; refine (CS _).out.mono ?_; rintro e w3 ⟨rfl, b3⟩; have X3 := hid ((X2.out.draws _).then b3); clear b3)
                      go_returns
                      exact ⟨none, 0, by rw [HE.out]; rfl, fun h => by rw [HE.out] at h; simp [txs] at h, X3.out⟩
            · have h3 : ((f : Int) != 0) = true := by rw [bne_iff_ne]; omega
              have h4 : ((f : Int) == 0) = false := by rw [beq_eq_false_iff_ne]; omega
              have HE := hid (show R = ([], f) by rw [HR.out, HE2.out, Front.rds_bad (Front.txt_2 (last := last) hr1 rfl hr2 hf) hf]; simp [hf])
              clear hr1 hr2 r1 r2 r3 r4 hl hs hLs hSs HE2 HR hk hlt hm hf hS1 hS1s
              go_wp2_with (first
                | (go_at_call 41; first
                    | (refine (C1 _).out.mono ?_; rintro e w1 ⟨rfl, b1⟩; have X1 := hid (X.then b1); have O1 := hid (own_ext HO.out b1); clear b1 C1)
                    | (refine (C2 _).out.mono ?_; rintro e w2 ⟨rfl, b2⟩; have X2 := hid (X1.out.then b2); have O2 := hid (own_ext O1.out b2); clear b2 C2)))
              go_returns
              exact ⟨none, 0, by rw [HE.out]; rfl, fun h => by rw [HE.out] at h; simp [txs] at h, X2.out⟩
          · have h3 : ((e : Int) != 0) = true := by rw [bne_iff_ne]; omega
            have h4 : ((e : Int) == 0) = false := by rw [beq_eq_false_iff_ne]; omega
            have HE := hid (show R = ([], e) by rw [HR.out, HE2.out, Front.rds_bad (Front.txt_1 (last := last) hr1 he) he]; simp [he])
            clear hr1 hl hs hLs hSs HE2 HR hk hlt hm he
            go_wp2_with (go_at_call 41; refine (C1 _).out.mono ?_; rintro e w1 ⟨rfl, b1⟩; have X1 := hid (X.then b1); clear b1)
            go_returns
            exact ⟨none, 0, by rw [HE.out]; rfl, fun h => by rw [HE.out] at h; simp [txs] at h, X1.out⟩
        · obtain hke : acc.length = mm := by omega
          have e2 := HI.out
          rw [hke, Nat.sub_self] at e2
          have hltI : ¬ (acc.length : Int) < (mm : Int) := by omega
          by_cases hs0 : s = []
          · have hS0 : (S.size : Int) = 0 := by rw [hSs, hs0]; rfl
            have HE := hid (show R = (acc, 0) by rw [HR.out, e2]; simp [Front.rds, hs0])
            clear e2 HI hs hl HR hs0 hSs hLs hk hlt hke hm
            go_wp2
            go_returns
            exact ⟨A, cap, by rw [HE.out]; rfl, by rw [HE.out]; exact HRD.out, X⟩
          · have HE := hid (show R = ([], 1) by rw [HR.out, e2]; simp [Front.rds, hs0])
            have hS0 : (0 : Int) < (S.size : Int) := by
              have := List.length_pos_iff.2 hs0; omega
            clear e2 HI hs hl HR hs0 hSs hLs hk hlt hke hm
            go_wp2
            go_returns
            exact ⟨none, 0, by rw [HE.out]; rfl, fun h => by rw [HE.out] at h; simp [txs] at h, X⟩
end Go.Proofs.Ytgobnpogmghgkaa
