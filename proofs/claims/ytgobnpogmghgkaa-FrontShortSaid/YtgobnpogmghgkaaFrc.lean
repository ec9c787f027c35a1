/- Front: the document's FrontBytes: walk. -/
import Derived.Test.YtgobnpogmghgkaaRows
import Derived.Test.YtgobnpogmghgkaaFrb
namespace Go.Proofs.Ytgobnpogmghgkaa
open Go.RowKit Hy
set_option maxHeartbeats 1600000 in
theorem frontBytes_any (l : List (List UInt8)) (A : Option Addr) (n cap : Nat) (w : World) (hn : l.length = n) (hr : Rd w A (txs l)) (hnl : n ≤ 64) (hf : Front.fitB l = true) :
    Calls Try.prog 17 #[.slice A n cap] w fun e w' => e = .returned (.string ⟨(Front.bytes l).toArray⟩) ∧ Ext w w' := by
  rw [Front.bytes_eq]
  have HN := hid hn
  have HA := hid hr
  have HF := hid ((Front.fitB_iff l).1 hf)
  clear hr hn hf
  go_enter Try.func17, Try.ntmps17
  go_wp2
  go_loopw [3, 4, 5] (fun t c _ wr => ∃ (k : Nat) (E : List UInt8), k ≤ n ∧ c = .int .i64 k ∧ Hid (E = Front.enc [] (l.take k)) ∧ E.length ≤ 18 * k ∧ t = .string ⟨E.toArray⟩ ∧ Ext w wr) (fun _ c _ _ => n - (intOf c).toNat)
  case atStart => exact ⟨0, [], Nat.zero_le _, rfl, hid rfl, Nat.le_refl _, rfl, ext_refl _⟩
  case round =>
    obtain ⟨k, E, hk, rfl, HE, hE, rfl, X⟩ := hrel
    by_cases hlt : k < n
    · have hka : k < l.length := by rw [HN.out]; exact hlt
      obtain ⟨b1, o1, e1, l1, c1⟩ := HA.out.texts k hka
      subst e1
      have HX := hid (fun (wx : World) (hx : Ext w wx) => (hx.cell (p := ⟨b1, o1 + k, none⟩) l1).trans (c1 k hka))
      have HXm := hid (fun (wx : World) (hx : Ext w wx) (j : Nat) (hj : j < l.length) => (hx.cell (p := ⟨b1, o1 + j, none⟩) l1).trans (c1 j hj))
      have hx := HF.out l[k] (List.getElem_mem hka)
      obtain ⟨T, hT⟩ : ∃ T, T = (l.take k).getLastD [] := ⟨_, rfl⟩
      have HTl := hid (show T.length ≤ 16 by rw [hT]; exact Front.lastD_len _ fun s hs => HF.out s (List.mem_of_mem_take hs))
      have HS := hid (show Front.enc [] (l.take (k + 1)) = E ++ Front.one T l[k] by rw [List.take_succ_eq_append_getElem hka, Front.enc_snoc, HE.out, hT])
      have HTk : Hid (∀ j (hj : j < l.length), k = j + 1 → T = l[j]) := hid fun j hj e => by
        subst e
        rw [hT, List.take_succ_eq_append_getElem hj, Front.lastD_snoc]
      have HT0 : Hid (k = 0 → T = []) := hid fun e => by subst e; rw [hT]; rfl
      generalize l[k] = s at *
      obtain ⟨z, hz⟩ : ∃ z, z = Front.shr T s := ⟨_, rfl⟩
      have hzl := (Front.shr_le T s).2
      have HON := hid (Front.one_len T s hx)
      have h1 : Front.one T s = Vary.wr z ++ (Vary.wr (s.length - z) ++ s.drop z) := by rw [hz]; rfl
      rw [← hz] at hzl HON
      obtain ⟨S, hS⟩ : ∃ S : ByteArray, S = ⟨s.toArray⟩ := ⟨_, rfl⟩
      have hSz : S.size = s.length := by rw [hS, str_size]
      obtain ⟨y, hy⟩ : ∃ y : Nat, y = s.length - z := ⟨_, rfl⟩
      rw [← hy] at h1
      have hyI : (S.size : Int) - (z : Int) = (y : Int) := by omega
      obtain ⟨p1, hp1⟩ : ∃ p1 : ByteArray, p1 = ⟨(Vary.wr z).toArray⟩ := ⟨_, rfl⟩
      obtain ⟨p2, hp2⟩ : ∃ p2 : ByteArray, p2 = ⟨(Vary.wr y).toArray⟩ := ⟨_, rfl⟩
      obtain ⟨q, hq⟩ : ∃ q : ByteArray, q = ⟨(s.drop z).toArray⟩ := ⟨_, rfl⟩
      obtain ⟨EE, hEE⟩ : ∃ EE : ByteArray, EE = ⟨E.toArray⟩ := ⟨_, rfl⟩
      have G1 : Gives Try.prog 38 #[.int .u64 z] (.string p1) := fun wx => by rw [hp1]; exact varyBytes_any z wx (by omega)
      have G2 : Gives Try.prog 38 #[.int .u64 y] (.string p2) := fun wx => by rw [hp2]; exact varyBytes_any y wx (by omega)
      have hR := fun wx : World => run_from (P := Try.prog) (w := wx) Try.underlying9 S .i64 z (by omega)
      have h3 : S.data.toList = s := by rw [hS]
      rw [h3, ← hq] at hR
      have hql : q.size ≤ 16 := by rw [hq, str_size, List.length_drop]; omega
      have hp1l : p1.size ≤ 9 := by rw [hp1, str_size, Vary.wr_len]; have := Vary.beh_le8 z; omega
      have hp2l : p2.size ≤ 9 := by rw [hp2, str_size, Vary.wr_len]; have := Vary.beh_le8 y; omega
      have hEl : EE.size ≤ 18 * k := by rw [hEE, str_size]; exact hE
      have hO1 := HON.out
      have HNX := hid (show EE ++ (p1 ++ p2 ++ q) = ⟨(Front.enc [] (l.take (k + 1))).toArray⟩ by
        rw [HS.out, h1, hEE, hp1, hp2, hq, str_app, str_app, str_app]; simp)
      have HLX := hid (show (Front.enc [] (l.take (k + 1))).length ≤ 18 * (k + 1) by
        rw [HS.out, List.length_append]; omega)
      have hzI : (z : Int) ≤ 16 := by omega
      have hyB : (y : Int) ≤ 16 := by omega
      have hSI : (S.size : Int) ≤ 16 := by omega
      have HSS := hid hS
      have hHX : ∀ wx : World, Ext w wx → wx.cell? ⟨b1, o1 + k, none⟩ = some (.string S) := fun wx h => by rw [hS]; exact HX.out wx h
      have HHX := hid hHX
      have HZ := hid hz
      rw [← hEE]
      clear c1 HX HS HON h1 hz hzl hS hSz h3 hq hp1 hp2 hx hEE hO1 hy hHX
      by_cases hk0 : k = 0
      · subst hk0
        obtain rfl : z = 0 := by rw [HZ.out, HT0.out rfl, Front.shr_nil]
        have hy0 : (S.size : Int) = (y : Int) := by omega
        have G1 : Gives Try.prog 38 #[.int .u64 0] (.string p1) := G1
        have hR : ∀ wx : World, (Instr.slice 9 (.string S) (some (.int .i64 0)) none none).run Try.prog wx = .ok (.string q) wx := hR
        rw [← hy0] at G2
        clear HZ HT0 HTk HTl hT HXm hka hyI hy0
        have d2 : wr.cell? ⟨b1, o1, none⟩ = some (.string S) := HHX.out wr X
        have d3 := cell_regrown d2
        go_wp2_with fail
        refine wp_region_quiet_below (by kernel_rfl) (by kernel_rfl) ?_
        repeat (go_big_quiet_step (first | (go_at_call 38; first | with_reducible exact G1.quiet _ _ _ | with_reducible exact G2.quiet _ _ _)))
        refine wpQuiet_nil ?_
        intro w9 hw9
        obtain ⟨p, rfl⟩ := hw9
        go_wp2
        go_roundw
        case rel => exact ⟨0 + 1, _, by omega, by go_num, hid rfl, HLX.out, by rw [← HNX.out], X.then (ext_regrown _ p)⟩
        case measure => simp [intOf]; omega
      · obtain ⟨j, rfl⟩ : ∃ j, k = j + 1 := ⟨k - 1, by omega⟩
        have hj : j < l.length := by omega
        obtain ⟨TT, hTT⟩ : ∃ TT : ByteArray, TT = ⟨T.toArray⟩ := ⟨_, rfl⟩
        have hTz : TT.size ≤ 16 := by rw [hTT, str_size]; exact HTl.out
        have G0 : Gives Try.prog 20 #[.string TT, .string S] (.int .i64 z) := fun wx => by
          rw [HZ.out, hTT, HSS.out]; exact sharedOf_any ⟨T.toArray⟩ ⟨s.toArray⟩ wx (by rw [← hTT]; omega)
        have d1 : wr.cell? ⟨b1, o1 + j, none⟩ = some (.string TT) := by rw [hTT, HTk.out j hj rfl]; exact HXm.out wr X j hj
        have d2 := HHX.out wr X
        have d1r := cell_regrown d1
        have d2r := cell_regrown d2
        clear HZ HT0 HTk HTl hT HXm hka hj hTT hk0
        go_wp2_with fail
        refine wp_region_quiet_below (by kernel_rfl) (by kernel_rfl) ?_
        repeat (go_big_quiet_step (first | (go_at_call 20; exact G0.quiet _ _ _)))
        refine wpQuiet_nil ?_
        intro w8 hw8
        have X8 : Ext w w8 := by obtain ⟨p, rfl⟩ := hw8; exact X.then (ext_regrown _ p)
        clear hw8 d1 d2 d1r d2r X
        have X := X8
        have d2 := HHX.out w8 X
        have d3 := cell_regrown d2
        go_wp2_with fail
        refine wp_region_quiet_below (by kernel_rfl) (by kernel_rfl) ?_
        repeat (go_big_quiet_step (first | (go_at_call 38; first | with_reducible exact G1.quiet _ _ _ | with_reducible exact G2.quiet _ _ _)))
        refine wpQuiet_nil ?_
        intro w9 hw9
        obtain ⟨p, rfl⟩ := hw9
        go_wp2
        go_roundw
        case rel => exact ⟨j + 1 + 1, _, by omega, by go_num, hid rfl, HLX.out, by rw [← HNX.out], X.then (ext_regrown _ p)⟩
        case measure => simp [intOf]; omega
    · obtain rfl : k = n := by omega
      have HE2 := hid (show E = Front.enc [] l by rw [HE.out, List.take_of_length_le (by rw [HN.out]; exact Nat.le_refl _)])
      go_wp2
      go_returns
      exact ⟨by rw [← HE2.out]; rfl, X⟩
end Go.Proofs.Ytgobnpogmghgkaa
