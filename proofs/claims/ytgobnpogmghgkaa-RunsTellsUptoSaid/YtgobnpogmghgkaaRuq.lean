/- Runs: Joined: walk. -/
import Derived.Test.YtgobnpogmghgkaaRuo
namespace Hy.Runs
theorem joinR_len (a b : List Run) : (joinR a b).length ≤ a.length + b.length := by
  rcases List.eq_nil_or_concat a with rfl | ⟨a', ⟨u, m⟩, rfl⟩
  · simp [joinR]
  · rw [List.concat_eq_append, joinR_app]
    cases b with
    | nil => simp [joinR]
    | cons y b => obtain ⟨x, k⟩ := y; simp only [joinR]; split <;> simp <;> omega
theorem joinR_bd (a b : List Run) (ha : ∀ x ∈ a, 1 ≤ x.2 ∧ x.2 ≤ 64) (hb : ∀ x ∈ b, 1 ≤ x.2 ∧ x.2 ≤ 64) : ∀ x ∈ joinR a b, 1 ≤ x.2 ∧ x.2 ≤ 128 := by
  rcases List.eq_nil_or_concat a with rfl | ⟨a', ⟨u, m⟩, rfl⟩
  · intro x hx; have := hb x (by simpa [joinR] using hx); omega
  · rw [List.concat_eq_append] at ha ⊢
    have hu := ha (u, m) (by simp)
    rw [joinR_app]
    intro x hx
    rcases List.mem_append.1 hx with h | h
    · have := ha x (by simp [h]); omega
    · cases b with
      | nil =>
        simp only [joinR, List.mem_singleton] at h
        subst h; simp only at hu ⊢; omega
      | cons y b =>
        obtain ⟨z, k⟩ := y
        have hz := hb (z, k) (by simp)
        simp only [joinR] at h
        split at h
        · rcases List.mem_cons.1 h with rfl | h
          · simp only at hu hz ⊢; omega
          · have := hb x (by simp [h]); omega
        · rcases List.mem_cons.1 h with rfl | h
          · simp only at hu ⊢; omega
          · have := hb x h; omega
end Hy.Runs
namespace Go.Proofs.Ytgobnpogmghgkaa
open Go.RowKit Hy
set_option maxRecDepth 2000 in
set_option maxHeartbeats 8000000 in
theorem joined_any (a b : List Runs.Run) (A B : Option Addr) (n m ca cb : Nat) (w : World) (hn : a.length = n) (hm : b.length = m) (ha : Rd w A (rws a)) (hb : Rd w B (rws b)) (hA : A = none → n = 0) (hB : B = none → m = 0) (hmc : m ≤ cb)
    (hnl : n ≤ 140737488355328) (hml : m ≤ 140737488355328) :
    Calls Try.prog 32 #[.slice A n ca, .slice B m cb] w fun e w' => ∃ C c, e = .returned (.tuple #[.slice C (Runs.jo a b).1.length c, .int .i64 ((Runs.jo a b).2 : Nat)]) ∧ Rd w' C (rws (Runs.jo a b).1) ∧ Ext w w' := by
  have HC1 := hid (fun w' (hx : Ext w w') => check_any a A n ca w' hn (ha.keep hx) hnl)
  have HC2 := hid (fun w' (hx : Ext w w') => check_any b B m cb w' hm (hb.keep hx) hml)
  have HX1 := hid (Ext.new (ext_refl w) (.cells #[.slice A n ca, .slice B m cb] 37))
  have c0 : (w.alloc (.cells #[.slice A n ca, .slice B m cb] 37)).cell? ⟨w.heap.size, 0, none⟩ = some (.slice A n ca) := (Blk.new w _ _).cell 0
  have H1C := hid (show (w.alloc (.cells #[.slice A n ca, .slice B m cb] 37)).cell? ⟨w.heap.size, 1, none⟩ = some (.slice B m cb) from (Blk.new w _ _).cell 1)
  have hca := chk_lt a none 0
  have hcb := chk_lt b none 0
  have hnI : (n : Int) ≤ 140737488355328 := by omega
  have hmI : (m : Int) ≤ 140737488355328 := by omega
  by_cases h1 : Runs.chk none 0 a = 0
  · rw [h1] at HC1
    obtain ⟨za1, za2, za3⟩ := Runs.chk_zero a none 0 h1 (by omega)
    by_cases h2 : Runs.chk none 0 b = 0
    · rw [h2] at HC2
      obtain ⟨zb1, zb2, zb3⟩ := Runs.chk_zero b none 0 h2 (by omega)
      have hJ : Runs.jo a b = Runs.fin (Runs.joinR a b) := by unfold Runs.jo; rw [if_neg (by simp [h1]), if_neg (by simp [h2])]
      have hOL := Runs.joinR_len a b
      have hOP := Runs.joinR_bd a b za1 zb1
      obtain ⟨O, hO⟩ : ∃ O, O = Runs.joinR a b := ⟨_, rfl⟩
      rw [hJ, ← hO]
      rw [← hO] at hOL hOP
      have HCL := hid (fun w' (hx : Ext w w') => cloneR_any a A n ca w' hn (ha.keep hx) hA (by omega))
      have HOE := hid hO
      have HOP := hid hOP
      have HOL := hid (show O.length ≤ 200 by omega)
      have HNA := hid hn
      have HMB := hid hm
      have HRB := hid hb
      have HPB := hid hB
      have hn64 : (n : Int) ≤ 64 := by omega
      have hm64 : (m : Int) ≤ 64 := by omega
      have hmcI : (m : Int) ≤ (cb : Int) := by omega
      have HZA := hid za1
      have HZB := hid zb1
      clear hn hm ha hb hA hB hnl hml hca hcb h1 h2 za1 za2 za3 zb1 zb2 zb3 hJ hnI hmI hO hOL hOP
      go_enter Try.func32, Try.ntmps32
      go_wp2
      refine wp_loop_rounds 3 ?_
      rw [rounds_succ]
      go_wp2_with fail
      refine (HC1.out _ HX1.out).mono ?_
      rintro e w2 ⟨rfl, hx2⟩
      have c1 := ext_cell hx2 H1C.out
      have HX2 := hid (HX1.out.then hx2)
      clear hx2
      go_wp2_with fail
      rw [rounds_succ]
      go_wp2_with fail
      refine (HC2.out _ HX2.out).mono ?_
      rintro e w3 ⟨rfl, hx3⟩
      have HX3 := hid (HX2.out.then hx3)
      clear hx3 c1 c0
      go_wp2_with fail
      rw [rounds_succ]
      go_wp2_with fail
      refine (HCL.out _ HX3.out).mono ?_
      rintro e w4 ⟨v4, rfl, hown4, hx4⟩
      have HO4 := hid (own_low hown4 HX3.out.size)
      have HX4 := hid (HX3.out.then hx4)
      clear hown4 hx4
      rcases List.eq_nil_or_concat a with ea | ⟨a', ⟨u, k1⟩, ea⟩
      · obtain rfl : n = 0 := by rw [← HNA.out, ea]; rfl
        subst ea
        obtain ⟨A4, k4, rfl, _, _, _, _⟩ := Rd.owned HO4.out
        have HLEN := hid (show 0 + m = O.length by rw [HOE.out, Nat.zero_add, ← HMB.out]; rfl)
        have HROW := hid (show rws [] ++ rws b = rws O by rw [HOE.out]; rfl)
        have HNM := hid (show 0 + m ≤ 64 by omega)
        clear hmc
        go_wp2_with fail
        go_quiet (fail)
        have XB := hid (HX4.out.draws nq)
        go_wp2_with (at_builtin; go_loud (refine wpList_app rfl (.tmp 69) (.tmp 70) rowRn rfl _ 0 (rws []) rfl (own_ext HO4.out (Ext.draws (ext_refl _) nq)) _ m (rws b) rfl (Src.rd Try.underlying37 _ m cb _ (by rw [rws_len, HMB.out]) (HRB.out.keep XB.out) (rws_one _) HPB.out) (by have := HNM.out; simp only [maxLen]; omega) (by have := HNM.out; omega) XB.out.size ?_; intro v' w9 hown9 hgrow hat hbel; rw [HLEN.out, HROW.out] at hown9; obtain ⟨A9, c9, rfl, hrd9, _, _, _⟩ := Rd.owned hown9; have HRD9 := hid hrd9; have XW : Hid (Ext w w9) := hid (XB.out.trans hbel); clear hown9 hgrow hat hbel hrd9))

        -- the sum
        have hoI : (O.length : Int) ≤ 200 := by have := HOL.out; omega
        go_loopw [12, 14, 74] (fun s _ c wr => ∃ k d : Nat, k ≤ O.length ∧ c = .int .i64 k ∧ s = .int .i64 d ∧ d ≤ 64 ∧ Hid ((Runs.unrun (O.take k)).length = d) ∧ Ext w9 wr) (fun _ _ c _ => O.length - (intOf c).toNat)
        case atStart => exact ⟨0, 0, Nat.zero_le _, rfl, rfl, by omega, hid (by simp [Runs.unrun]), ext_refl _⟩
        case round =>
          obtain ⟨k, d, hk, rfl, rfl, hd, HD, X9⟩ := hrel
          by_cases hlt : k < O.length
          · obtain ⟨b1, o1, e1, l1, c1⟩ := HRD9.out.runs k hlt
            subst e1
            have dv := (X9.cell (p := ⟨b1, o1 + k * 2, none⟩) l1).trans (c1 k hlt).1
            have dn := (X9.cell (p := ⟨b1, o1 + k * 2 + 1, none⟩) l1).trans (c1 k hlt).2
            have h1 := HOP.out _ (List.getElem_mem hlt)
            have hS := congrArg List.length (Runs.unrun_snoc O k hlt)
            obtain ⟨N, hN⟩ : ∃ N : Nat, O[k].2 = (N : Int) := ⟨O[k].2.toNat, by omega⟩
            rw [hN] at dn hS h1
            rw [List.length_append, List.length_replicate, Int.toNat_natCast, HD.out] at hS
            have HS := hid hS
            have hP := Runs.unrun_part O (k + 1)
            rw [hS] at hP
            generalize O[k].1 = v at *
            clear hS hN c1
            have hNI : 1 ≤ (N : Int) ∧ (N : Int) ≤ 128 := by omega
            have dvn : (wr.alloc (.cells #[.int .u64 (v : Int), .int .i64 (N : Int)] 54)).cell? ⟨wr.heap.size, 0, none⟩ = some (.int .u64 (v : Int)) := (Blk.new wr 54 #[.int .u64 (v : Int), .int .i64 (N : Int)]).cell 0
            have dnn : (wr.alloc (.cells #[.int .u64 (v : Int), .int .i64 (N : Int)] 54)).cell? ⟨wr.heap.size, 1, none⟩ = some (.int .i64 (N : Int)) := (Blk.new wr 54 #[.int .u64 (v : Int), .int .i64 (N : Int)]).cell 1
            by_cases h64 : d + N ≤ 64
            · clear hP h1
              go_wp2
              go_roundw
              case rel => exact ⟨k + 1, d + N, by omega, by go_num, by go_num, by omega, HS, X9.new _⟩
              case measure => simp [intOf]; omega
            · have HF := hid (show Runs.fin O = ([], 2) by unfold Runs.fin; rw [if_neg (by omega)])
              clear hP h1
              go_wp2
              go_returns
              exact ⟨none, 0, by rw [HF.out]; rfl, by rw [HF.out]; exact fun h => absurd h (by simp [rws]), XW.out.then (X9.new _)⟩
          · have e : O.take k = O := List.take_of_length_le (by omega)
            have HF := hid (show Runs.fin O = (O, 0) by unfold Runs.fin; rw [if_pos (by have := HD.out; rw [e] at this; omega)])
            clear e
            go_wp2
            go_returns
            exact ⟨_, _, by rw [HF.out]; rfl, by rw [HF.out]; exact HRD9.out.keep X9, XW.out.then X9⟩
      · rw [List.concat_eq_append] at ea
        obtain ⟨p, hp⟩ : ∃ p, p = a'.length := ⟨_, rfl⟩
        have hnp : n = p + 1 := by rw [← HNA.out, ea, List.length_append, ← hp]; rfl
        obtain ⟨g4, k4, rfl, hg1, hg2⟩ := HO4.out.form (by omega)
        have hap : p < a.length := by rw [HNA.out]; omega
        have hae : a[p] = (u, k1) := by
          have : a[p]? = some (u, k1) := by rw [ea, hp]; simp
          rw [List.getElem?_eq_getElem hap] at this; exact Option.some.inj this
        obtain ⟨A4, k5, e4, hrd4, _, hk5, _⟩ := Rd.owned HO4.out
        injection e4 with e5 _ e6
        subst e5 e6
        obtain ⟨b1, o1, e1, l1, c1⟩ := hrd4.runs p hap
        injection e1 with e1
        injection e1 with e2 e3 _
        subst e2 e3
        have du := (c1 p hap).1
        have dk := (c1 p hap).2
        rw [hae] at du dk
        simp only [Nat.zero_add] at du dk
        have hk1 := HZA.out (u, k1) (by rw [ea]; simp)
        simp only at hk1
        have hnp1 : (n : Int) - 1 = (p : Int) := by omega
        have hpn : (p : Int) < (n : Int) := by omega
        have hn1 : 0 < (n : Int) := by omega
        have hn2 : decide (0 < n) = true := by rw [decide_eq_true_iff]; omega
        have HNP := hid hnp
        have HAP := hid hp
        have HG1 := hid hg1
        have HG2 := hid hg2
        have HEA := hid ea
        clear hnp hp c1 hap hae hrd4 l1 hg1 hg2 ea
        cases b with
        | nil =>
          obtain rfl : m = 0 := by rw [← HMB.out]; rfl
          have HLEN := hid (show n + 0 = O.length by rw [HOE.out, Runs.joinR_nil, HNA.out]; rfl)
          have HROW := hid (show rws a ++ rws [] = rws O by rw [HOE.out, Runs.joinR_nil]; simp [rws])
          have HNM := hid (show n + 0 ≤ 64 by omega)
          clear hmc
          go_wp2_with fail
          go_quiet (fail)
          have XB := hid (HX4.out.draws nq)
          go_wp2_with (at_builtin; go_loud (refine wpList_app rfl (.tmp 69) (.tmp 70) rowRn rfl _ n (rws a) rfl (own_ext HO4.out (Ext.draws (ext_refl _) nq)) _ 0 (rws []) rfl (Src.rd Try.underlying37 _ 0 cb _ rfl (HRB.out.keep XB.out) (rws_one _) (fun _ => rfl)) (by have := HNM.out; simp only [maxLen]; omega) (by have := HNM.out; omega) XB.out.size ?_; intro v' w9 hown9 hgrow hat hbel; rw [HLEN.out, HROW.out] at hown9; obtain ⟨A9, c9, rfl, hrd9, _, _, _⟩ := Rd.owned hown9; have HRD9 := hid hrd9; have XW : Hid (Ext w w9) := hid (XB.out.trans hbel); clear hown9 hgrow hat hbel hrd9))

          -- the sum
          have hoI : (O.length : Int) ≤ 200 := by have := HOL.out; omega
          go_loopw [12, 14, 74] (fun s _ c wr => ∃ k d : Nat, k ≤ O.length ∧ c = .int .i64 k ∧ s = .int .i64 d ∧ d ≤ 64 ∧ Hid ((Runs.unrun (O.take k)).length = d) ∧ Ext w9 wr) (fun _ _ c _ => O.length - (intOf c).toNat)
          case atStart => exact ⟨0, 0, Nat.zero_le _, rfl, rfl, by omega, hid (by simp [Runs.unrun]), ext_refl _⟩
          case round =>
            obtain ⟨k, d, hk, rfl, rfl, hd, HD, X9⟩ := hrel
            by_cases hlt : k < O.length
            · obtain ⟨b1, o1, e1, l1, c1⟩ := HRD9.out.runs k hlt
              subst e1
              have dv := (X9.cell (p := ⟨b1, o1 + k * 2, none⟩) l1).trans (c1 k hlt).1
              have dn := (X9.cell (p := ⟨b1, o1 + k * 2 + 1, none⟩) l1).trans (c1 k hlt).2
              have h1 := HOP.out _ (List.getElem_mem hlt)
              have hS := congrArg List.length (Runs.unrun_snoc O k hlt)
              obtain ⟨N, hN⟩ : ∃ N : Nat, O[k].2 = (N : Int) := ⟨O[k].2.toNat, by omega⟩
              rw [hN] at dn hS h1
              rw [List.length_append, List.length_replicate, Int.toNat_natCast, HD.out] at hS
              have HS := hid hS
              have hP := Runs.unrun_part O (k + 1)
              rw [hS] at hP
              generalize O[k].1 = v at *
              clear hS hN c1
              have hNI : 1 ≤ (N : Int) ∧ (N : Int) ≤ 128 := by omega
              have dvn : (wr.alloc (.cells #[.int .u64 (v : Int), .int .i64 (N : Int)] 54)).cell? ⟨wr.heap.size, 0, none⟩ = some (.int .u64 (v : Int)) := (Blk.new wr 54 #[.int .u64 (v : Int), .int .i64 (N : Int)]).cell 0
              have dnn : (wr.alloc (.cells #[.int .u64 (v : Int), .int .i64 (N : Int)] 54)).cell? ⟨wr.heap.size, 1, none⟩ = some (.int .i64 (N : Int)) := (Blk.new wr 54 #[.int .u64 (v : Int), .int .i64 (N : Int)]).cell 1
              by_cases h64 : d + N ≤ 64
              · clear hP h1
                go_wp2
                go_roundw
                case rel => exact ⟨k + 1, d + N, by omega, by go_num, by go_num, by omega, HS, X9.new _⟩
                case measure => simp [intOf]; omega
              · have HF := hid (show Runs.fin O = ([], 2) by unfold Runs.fin; rw [if_neg (by omega)])
                clear hP h1
                go_wp2
                go_returns
                exact ⟨none, 0, by rw [HF.out]; rfl, by rw [HF.out]; exact fun h => absurd h (by simp [rws]), XW.out.then (X9.new _)⟩
            · have e : O.take k = O := List.take_of_length_le (by omega)
              have HF := hid (show Runs.fin O = (O, 0) by unfold Runs.fin; rw [if_pos (by have := HD.out; rw [e] at this; omega)])
              clear e
              go_wp2
              go_returns
              exact ⟨_, _, by rw [HF.out]; rfl, by rw [HF.out]; exact HRD9.out.keep X9, XW.out.then X9⟩
        | cons y b' =>
          obtain ⟨x, k2⟩ := y
          obtain ⟨q, hq⟩ : ∃ q, q = b'.length := ⟨_, rfl⟩
          have hmq : m = q + 1 := by rw [← HMB.out, hq]; rfl
          obtain ⟨b2, o2, e2, l2, c2⟩ := HRB.out.runs 0 (by simp)
          subst e2
          have dx := (HX4.out.cell (p := ⟨b2, o2 + 0 * 2, none⟩) l2).trans (c2 0 (by simp)).1
          have dk2 := (HX4.out.cell (p := ⟨b2, o2 + 0 * 2 + 1, none⟩) l2).trans (c2 0 (by simp)).2
          simp only [Nat.zero_mul, Nat.add_zero, List.getElem_cons_zero] at dx dk2
          have hk2 := HZB.out (x, k2) (by simp)
          simp only at hk2
          have hm1 : 0 < (m : Int) := by omega
          have hm2 : decide (0 < m) = true := by rw [decide_eq_true_iff]; omega
          have HMQ := hid hmq
          have HQ := hid hq
          have HL2 := hid l2
          clear hq hmq c2 l2
          have HNM := hid (show n + m ≤ 128 by omega)
          by_cases hux : u = x
          · subst hux
            have e1 : ((u : Int) == (u : Int)) = true := by simp
            have HLEN := hid (show n + (m - 1) = O.length by rw [HOE.out, HEA.out, Runs.joinR_same, HNP.out, List.length_append, List.length_cons, ← HAP.out, HMQ.out, ← HQ.out]; omega)
            have HROW := hid (show rws (a' ++ [(u, k1 + k2)]) ++ rws b' = rws O by rw [HOE.out, HEA.out, Runs.joinR_same, ← rws_app, List.append_assoc]; rfl)
            have hsum : IntKind.i64.wrap (k1 + k2) = k1 + k2 := by rw [IntKind.wrap_i64]; omega
            go_wp2_with fail
            go_quiet (fail)
            go_wp2_with fail
            refine wp_gen (fun w' => w'.ownsRow w.heap.size 54 2 (.slice (some ⟨g4, 0, none⟩) n k4) n (rws a) ∧ (∃ cur, Blk w' g4 54 cur) ∧ w'.cell? ⟨g4, p * 2 + 1, none⟩ = some (.int .i64 k1) ∧ w'.cell? ⟨b2, o2 + 1, none⟩ = some (.int .i64 k2) ∧ Ext w w') ⟨own_ext HO4.out (Ext.draws (ext_refl _) _), own_blk (own_ext HO4.out (Ext.draws (ext_refl _) _)), dk, dk2, HX4.out.draws _⟩ ?_
            rintro w5 ⟨hown5, ⟨cur, hblk⟩, dk5, dk52, hx5⟩
            have f5 := hblk.frozen (p * 2 + 1)
            have HO5 := hid hown5
            have HX5 := hid hx5
            clear hown5 hblk hx5 du dk dx dk2
            have hwn : IntKind.i64.wrap ((n : Int) - 1) = (p : Int) := by rw [IntKind.wrap_i64]; omega
            have hwp : IntKind.i64.wrap (p : Int) = (p : Int) := by rw [IntKind.wrap_i64]; omega
            have hp0 : (0 : Int) ≤ (p : Int) := by omega
            have hm3 : 0 < m := by omega
            go_still_tail 13, (by kernel_rfl)
            change wpList _ _ _ _ _ w5.drew
            clear hm3 hwn hwp hp0
            have XB := hid ((HX5.out.draw).put (p := ⟨g4, p * 2 + 1, none⟩) HG1.out (.int .i64 (k1 + k2)))
            have HSET := hid (show (rws a).set (p * 2 + 1) (.int .i64 (k1 + k2)) = rws (a' ++ [(u, k1 + k2)]) by
              rw [HEA.out, rws_app, rws_app, List.set_append_right _ _ (by rw [rws_len, ← HAP.out]; omega), rws_len, ← HAP.out, show p * 2 + 1 - p * 2 = 1 by omega]; rfl)
            have HRD2 := hid (show Rd w (if cb = 1 then some ⟨b2, o2, none⟩ else some ⟨b2, o2 + 2, none⟩) (rws b') by
              split
              · have e0 : b'.length = 0 := by have := HQ.out; have := HMQ.out; omega
                rw [List.eq_nil_of_length_eq_zero e0]; exact fun h => absurd h (by simp [rws])
              · exact HRB.out.drop 2)
            have HNIL := hid (show (if cb = 1 then some (⟨b2, o2, none⟩ : Addr) else some ⟨b2, o2 + 2, none⟩) = none → m - 1 = 0 by split <;> (intro h; cases h))
            have HNM2 := hid (show n + (m - 1) ≤ 128 by have := HNM.out; omega)
            have HQM := hid (show b'.length = m - 1 by have := HQ.out; have := HMQ.out; omega)
            clear HNM
            have HNM := HNM2
            go_wp2_with (at_builtin; go_loud (refine wpList_app rfl (.tmp 69) (.tmp 70) rowRn rfl _ n (rws (a' ++ [(u, k1 + k2)])) rfl (by have := own_set (own_ext HO5.out (Ext.draw (ext_refl _))) rfl (p * 2 + 1) (.int .i64 (k1 + k2)); rw [HSET.out] at this; exact this) _ (m - 1) (rws b') rfl (Src.rd Try.underlying37 _ (m - 1) (cb - 1) _ (by rw [rws_len, HQM.out]) (HRD2.out.keep XB.out) (rws_one _) HNIL.out) (by have := HNM.out; simp only [maxLen]; omega) (by have := HNM.out; omega) XB.out.size ?_; intro v' w9 hown9 hgrow hat hbel; rw [HLEN.out, HROW.out] at hown9; obtain ⟨A9, c9, rfl, hrd9, _, _, _⟩ := Rd.owned hown9; have HRD9 := hid hrd9; have XW : Hid (Ext w w9) := hid (XB.out.trans hbel); clear hown9 hgrow hat hbel hrd9))
            all_goals (
              -- the sum
              have hoI : (O.length : Int) ≤ 200 := by have := HOL.out; omega
              go_loopw [12, 14, 74] (fun s _ c wr => ∃ k d : Nat, k ≤ O.length ∧ c = .int .i64 k ∧ s = .int .i64 d ∧ d ≤ 64 ∧ Hid ((Runs.unrun (O.take k)).length = d) ∧ Ext w9 wr) (fun _ _ c _ => O.length - (intOf c).toNat)
              case atStart => exact ⟨0, 0, Nat.zero_le _, rfl, rfl, by omega, hid (by simp [Runs.unrun]), ext_refl _⟩
              case round =>
                obtain ⟨k, d, hk, rfl, rfl, hd, HD, X9⟩ := hrel
                by_cases hlt : k < O.length
                · obtain ⟨b1, o1, e1, l1, c1⟩ := HRD9.out.runs k hlt
                  subst e1
                  have dv := (X9.cell (p := ⟨b1, o1 + k * 2, none⟩) l1).trans (c1 k hlt).1
                  have dn := (X9.cell (p := ⟨b1, o1 + k * 2 + 1, none⟩) l1).trans (c1 k hlt).2
                  have h1 := HOP.out _ (List.getElem_mem hlt)
                  have hS := congrArg List.length (Runs.unrun_snoc O k hlt)
                  obtain ⟨N, hN⟩ : ∃ N : Nat, O[k].2 = (N : Int) := ⟨O[k].2.toNat, by omega⟩
                  rw [hN] at dn hS h1
                  rw [List.length_append, List.length_replicate, Int.toNat_natCast, HD.out] at hS
                  have HS := hid hS
                  have hP := Runs.unrun_part O (k + 1)
                  rw [hS] at hP
                  generalize O[k].1 = v at *
                  clear hS hN c1
                  have hNI : 1 ≤ (N : Int) ∧ (N : Int) ≤ 128 := by omega
                  have dvn : (wr.alloc (.cells #[.int .u64 (v : Int), .int .i64 (N : Int)] 54)).cell? ⟨wr.heap.size, 0, none⟩ = some (.int .u64 (v : Int)) := (Blk.new wr 54 #[.int .u64 (v : Int), .int .i64 (N : Int)]).cell 0
                  have dnn : (wr.alloc (.cells #[.int .u64 (v : Int), .int .i64 (N : Int)] 54)).cell? ⟨wr.heap.size, 1, none⟩ = some (.int .i64 (N : Int)) := (Blk.new wr 54 #[.int .u64 (v : Int), .int .i64 (N : Int)]).cell 1
                  by_cases h64 : d + N ≤ 64
                  · clear hP h1
                    go_wp2
                    go_roundw
                    case rel => exact ⟨k + 1, d + N, by omega, by go_num, by go_num, by omega, HS, X9.new _⟩
                    case measure => simp [intOf]; omega
                  · have HF := hid (show Runs.fin O = ([], 2) by unfold Runs.fin; rw [if_neg (by omega)])
                    clear hP h1
                    go_wp2
                    go_returns
                    exact ⟨none, 0, by rw [HF.out]; rfl, by rw [HF.out]; exact fun h => absurd h (by simp [rws]), XW.out.then (X9.new _)⟩
                · have e : O.take k = O := List.take_of_length_le (by omega)
                  have HF := hid (show Runs.fin O = (O, 0) by unfold Runs.fin; rw [if_pos (by have := HD.out; rw [e] at this; omega)])
                  clear e
                  go_wp2
                  go_returns
                  exact ⟨_, _, by rw [HF.out]; rfl, by rw [HF.out]; exact HRD9.out.keep X9, XW.out.then X9⟩)
          · have e1 : ((u : Int) == (x : Int)) = false := by rw [beq_eq_false_iff_ne]; omega
            have HLEN := hid (show n + m = O.length by rw [HOE.out, HEA.out, Runs.joinR_diff _ _ _ _ _ _ hux, List.length_append, ← HEA.out, HNA.out, HMB.out])
            have HROW := hid (show rws a ++ rws ((x, k2) :: b') = rws O by rw [HOE.out, ← rws_app, HEA.out, Runs.joinR_diff _ _ _ _ _ _ hux])
            go_wp2_with fail
            go_quiet (fail)
            have XB := hid (HX4.out.draws nq)
            go_wp2_with (at_builtin; go_loud (refine wpList_app rfl (.tmp 69) (.tmp 70) rowRn rfl _ n (rws a) rfl (own_ext HO4.out (Ext.draws (ext_refl _) nq)) _ m (rws ((x, k2) :: b')) rfl (Src.rd Try.underlying37 _ m cb _ (by rw [rws_len, HMB.out]) (HRB.out.keep XB.out) (rws_one _) HPB.out) (by have := HNM.out; simp only [maxLen]; omega) (by have := HNM.out; omega) XB.out.size ?_; intro v' w9 hown9 hgrow hat hbel; rw [HLEN.out, HROW.out] at hown9; obtain ⟨A9, c9, rfl, hrd9, _, _, _⟩ := Rd.owned hown9; have HRD9 := hid hrd9; have XW : Hid (Ext w w9) := hid (XB.out.trans hbel); clear hown9 hgrow hat hbel hrd9))

            -- the sum
            have hoI : (O.length : Int) ≤ 200 := by have := HOL.out; omega
            go_loopw [12, 14, 74] (fun s _ c wr => ∃ k d : Nat, k ≤ O.length ∧ c = .int .i64 k ∧ s = .int .i64 d ∧ d ≤ 64 ∧ Hid ((Runs.unrun (O.take k)).length = d) ∧ Ext w9 wr) (fun _ _ c _ => O.length - (intOf c).toNat)
            case atStart => exact ⟨0, 0, Nat.zero_le _, rfl, rfl, by omega, hid (by simp [Runs.unrun]), ext_refl _⟩
            case round =>
              obtain ⟨k, d, hk, rfl, rfl, hd, HD, X9⟩ := hrel
              by_cases hlt : k < O.length
              · obtain ⟨b1, o1, e1, l1, c1⟩ := HRD9.out.runs k hlt
                subst e1
                have dv := (X9.cell (p := ⟨b1, o1 + k * 2, none⟩) l1).trans (c1 k hlt).1
                have dn := (X9.cell (p := ⟨b1, o1 + k * 2 + 1, none⟩) l1).trans (c1 k hlt).2
                have h1 := HOP.out _ (List.getElem_mem hlt)
                have hS := congrArg List.length (Runs.unrun_snoc O k hlt)
                obtain ⟨N, hN⟩ : ∃ N : Nat, O[k].2 = (N : Int) := ⟨O[k].2.toNat, by omega⟩
                rw [hN] at dn hS h1
                rw [List.length_append, List.length_replicate, Int.toNat_natCast, HD.out] at hS
                have HS := hid hS
                have hP := Runs.unrun_part O (k + 1)
                rw [hS] at hP
                generalize O[k].1 = v at *
                clear hS hN c1
                have hNI : 1 ≤ (N : Int) ∧ (N : Int) ≤ 128 := by omega
                have dvn : (wr.alloc (.cells #[.int .u64 (v : Int), .int .i64 (N : Int)] 54)).cell? ⟨wr.heap.size, 0, none⟩ = some (.int .u64 (v : Int)) := (Blk.new wr 54 #[.int .u64 (v : Int), .int .i64 (N : Int)]).cell 0
                have dnn : (wr.alloc (.cells #[.int .u64 (v : Int), .int .i64 (N : Int)] 54)).cell? ⟨wr.heap.size, 1, none⟩ = some (.int .i64 (N : Int)) := (Blk.new wr 54 #[.int .u64 (v : Int), .int .i64 (N : Int)]).cell 1
                by_cases h64 : d + N ≤ 64
                · clear hP h1
                  go_wp2
                  go_roundw
                  case rel => exact ⟨k + 1, d + N, by omega, by go_num, by go_num, by omega, HS, X9.new _⟩
                  case measure => simp [intOf]; omega
                · have HF := hid (show Runs.fin O = ([], 2) by unfold Runs.fin; rw [if_neg (by omega)])
                  clear hP h1
                  go_wp2
                  go_returns
                  exact ⟨none, 0, by rw [HF.out]; rfl, by rw [HF.out]; exact fun h => absurd h (by simp [rws]), XW.out.then (X9.new _)⟩
              · have e : O.take k = O := List.take_of_length_le (by omega)
                have HF := hid (show Runs.fin O = (O, 0) by unfold Runs.fin; rw [if_pos (by have := HD.out; rw [e] at this; omega)])
                clear e
                go_wp2
                go_returns
                exact ⟨_, _, by rw [HF.out]; rfl, by rw [HF.out]; exact HRD9.out.keep X9, XW.out.then X9⟩

    · have hJ : Runs.jo a b = ([], Runs.chk none 0 b) := by unfold Runs.jo; rw [if_neg (by simp [h1]), if_pos h2]
      rw [hJ]
      obtain ⟨R, hR⟩ : ∃ R, R = Runs.chk none 0 b := ⟨_, rfl⟩
      rw [← hR] at HC2 hcb h2 ⊢
      have hI : 1 ≤ (R : Int) ∧ (R : Int) ≤ 6 := by omega
      have e1 : ((R : Int) == 0) = false := by rw [beq_eq_false_iff_ne]; omega
      have e2 : ((R : Int) != 0) = true := by simp; omega
      clear hn hm ha hb hA hB hnl hml hca hcb h1 h2 za1 za2 za3 hJ hnI hmI hR
      go_enter Try.func32, Try.ntmps32
      go_wp2
      refine wp_loop_rounds 3 ?_
      rw [rounds_succ]
      go_wp2_with fail
      refine (HC1.out _ HX1.out).mono ?_
      rintro e w2 ⟨rfl, hx2⟩
      have c1 := ext_cell hx2 H1C.out
      have HX2 := hid (HX1.out.then hx2)
      clear hx2
      go_wp2_with fail
      rw [rounds_succ]
      go_wp2_with fail
      refine (HC2.out _ HX2.out).mono ?_
      rintro e w3 ⟨rfl, hx3⟩
      have HX3 := hid (HX2.out.then hx3)
      clear hx3 c1 c0
      go_wp2_with fail
      go_returns
      exact ⟨none, 0, rfl, fun h => absurd h (by simp [rws]), HX3.out⟩
  · have hJ : Runs.jo a b = ([], Runs.chk none 0 a) := by unfold Runs.jo; rw [if_pos h1]
    rw [hJ]
    obtain ⟨R, hR⟩ : ∃ R, R = Runs.chk none 0 a := ⟨_, rfl⟩
    rw [← hR] at HC1 hca h1 ⊢
    have hI : 1 ≤ (R : Int) ∧ (R : Int) ≤ 6 := by omega
    have e1 : ((R : Int) == 0) = false := by rw [beq_eq_false_iff_ne]; omega
    have e2 : ((R : Int) != 0) = true := by simp; omega
    clear hn hm ha hb hA hB hnl hml hca hcb h1 hJ hnI hmI hR
    go_enter Try.func32, Try.ntmps32
    go_wp2
    refine wp_loop_rounds 3 ?_
    rw [rounds_succ]
    go_wp2_with fail
    refine (HC1.out _ HX1.out).mono ?_
    rintro e w2 ⟨rfl, hx2⟩
    have HX2 := hid (HX1.out.then hx2)
    clear hx2 c0
    go_wp2_with fail
    go_returns
    exact ⟨none, 0, rfl, fun h => absurd h (by simp [rws]), HX2.out⟩
end Go.Proofs.Ytgobnpogmghgkaa
