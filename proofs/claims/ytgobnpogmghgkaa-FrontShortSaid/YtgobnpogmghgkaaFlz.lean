/- Front: FrontShort, walked. -/
import Derived.Test.YtgobnpogmghgkaaFlw
namespace Go.Proofs.Ytgobnpogmghgkaa
open Go.RowKit Hy
set_option maxHeartbeats 1600000 in
theorem frontShort_walk (l : List (List UInt8)) (A : Option Addr) (n cap : Nat) (w : World) (hn : l.length = n) (hr : Rd w A (txs l)) (hnl : n ≤ 140737488355328) :
    Calls Try.prog 9 #[.slice A n cap] w fun e w' => e = .returned (.bool true) ∧ Ext w w' := by
  have HA := hid hr
  have HN := hid hn
  by_cases hf : n ≤ 64 ∧ Front.fitB l = true
  · have HW := hid (fwrite_of l _ 0 (Front.wrt_ok (by omega) hf.2) A n cap w hn hr hnl)
    have HF := hid ((Front.fitB_iff l).1 hf.2)
    obtain ⟨h64, _⟩ := hf
    obtain ⟨Q, hQ⟩ : ∃ Q : ByteArray, Q = ⟨(Front.bytes l).toArray⟩ := ⟨_, rfl⟩
    have HQ := hid (show Q.size = (Front.enc [] l).length by rw [hQ, str_size, Front.bytes_eq])
    rw [← hQ] at HW
    have hnI : (n : Int) ≤ 64 := by omega
    clear hr hn hnl hQ h64
    go_enter Try.func9, Try.ntmps9
    go_wp2_with (first
      | (go_at_call 15; refine HW.out.mono ?_; rintro e w1 ⟨rfl, b1⟩)
      | (go_at_call 18; refine (frontBegun_any _).mono ?_; rintro e w4 ⟨rfl, b4⟩; have X4 := b1.then b4; clear b1 b4))
    go_loopw [5, 6] (fun t c wr => ∃ (k E : Nat), k ≤ n ∧ c = .int .i64 k ∧ t = .int .i64 E ∧ Hid (E = (Front.enc [] (l.take k)).length) ∧ (E : Int) ≤ 18 * (k : Int) ∧ Ext w wr) (fun _ c _ => n - (intOf c).toNat)
    case atStart => exact ⟨0, 0, Nat.zero_le _, rfl, rfl, hid rfl, by omega, X4⟩
    case round =>
      obtain ⟨k, E, hk, rfl, rfl, HE, hE, X⟩ := hrel
      by_cases hlt : k < n
      · have hka : k < l.length := by rw [HN.out]; exact hlt
        obtain ⟨b1, o1, e1, l1, c1⟩ := HA.out.texts k hka
        subst e1
        have HXm := hid (fun (wx : World) (hx : Ext w wx) (j : Nat) (hj : j < l.length) => (hx.cell (p := ⟨b1, o1 + j, none⟩) l1).trans (c1 j hj))
        have d2 := HXm.out wr X k hka
        have hx := HF.out l[k] (List.getElem_mem hka)
        obtain ⟨T, hT⟩ : ∃ T, T = (l.take k).getLastD [] := ⟨_, rfl⟩
        have HTl := hid (show T.length ≤ 16 by rw [hT]; exact Front.lastD_len _ fun s hs => HF.out s (List.mem_of_mem_take hs))
        have HS := hid (show (Front.enc [] (l.take (k + 1))).length = E + (Front.one T l[k]).length by rw [List.take_succ_eq_append_getElem hka, Front.enc_snoc, List.length_append, HE.out, hT])
        have HTk : Hid (∀ j (hj : j < l.length), k = j + 1 → T = l[j]) := hid fun j hj e => by
          subst e
          rw [hT, List.take_succ_eq_append_getElem hj, Front.lastD_snoc]
        have HT0 : Hid (k = 0 → T = []) := hid fun e => by subst e; rw [hT]; rfl
        generalize l[k] = s at *
        obtain ⟨z, hz⟩ : ∃ z, z = Front.shr T s := ⟨_, rfl⟩
        have hzl := (Front.shr_le T s).2
        have HON := Front.one_len T s hx
        rw [← hz] at hzl HON
        obtain ⟨S, hS⟩ : ∃ S : ByteArray, S = ⟨s.toArray⟩ := ⟨_, rfl⟩
        have hSz : S.size = s.length := by rw [hS, str_size]
        have HSS := hid hS
        rw [← hS] at d2
        have HZ := hid hz
        have hSI : (S.size : Int) ≤ 16 := by omega
        have hzI : (z : Int) ≤ (S.size : Int) := by omega
        have hEI : (E : Int) ≤ 1152 := by omega
        obtain ⟨E2, hE2⟩ : ∃ E2 : Nat, E2 = (Front.enc [] (l.take (k + 1))).length := ⟨_, rfl⟩
        have hE2v : (E2 : Int) = (E : Int) + (2 + (S.size : Int)) - (z : Int) := by rw [hE2, HS.out]; omega
        have hE2b : (E2 : Int) ≤ 18 * ((k + 1 : Nat) : Int) := by omega
        have HE2 := hid hE2
        have HE2v := hid hE2v
        have HE2b := hid hE2b
        clear c1 HS HON hz hzl hS hSz hx hE2 hE2v hE2b hE
        by_cases hk0 : k = 0
        · subst hk0
          obtain rfl : z = 0 := by rw [HZ.out, HT0.out rfl, Front.shr_nil]
          have d2 : wr.cell? ⟨b1, o1, none⟩ = some (.string S) := d2
          clear HZ HT0 HTk HTl hT HXm hka
          go_wp2_with fail
          go_roundw
          case rel => exact ⟨0 + 1, E2, by omega, by go_num, by have := HE2v.out; go_num, HE2, HE2b.out, X⟩
          case measure => simp [intOf]; omega
        · obtain ⟨j, rfl⟩ : ∃ j, k = j + 1 := ⟨k - 1, by omega⟩
          have hj : j < l.length := by omega
          obtain ⟨TT, hTT⟩ : ∃ TT : ByteArray, TT = ⟨T.toArray⟩ := ⟨_, rfl⟩
          have hTz : TT.size ≤ 16 := by rw [hTT, str_size]; exact HTl.out
          have G0 : Gives Try.prog 19 #[.string TT, .string S] (.int .i64 z) := fun wx => by
            rw [HZ.out, hTT, HSS.out]; exact shared_any ⟨T.toArray⟩ ⟨s.toArray⟩ wx (by rw [← hTT]; omega)
          have d1 : wr.cell? ⟨b1, o1 + j, none⟩ = some (.string TT) := by rw [hTT, HTk.out j hj rfl]; exact HXm.out wr X j hj
          have d1r := cell_regrown d1
          have d2r := cell_regrown d2
          clear HZ HT0 HTk HTl hT HXm hka hj hTT hk0
          go_wp2_with fail
          refine wp_region_quiet_below (by kernel_rfl) (by kernel_rfl) ?_
          repeat (go_big_quiet_step (first | (go_at_call 19; exact G0.quiet _ _ _)))
          refine wpQuiet_nil ?_
          intro w8 hw8
          have X8 : Ext w w8 := by obtain ⟨p, rfl⟩ := hw8; exact X.then (ext_regrown _ p)
          clear hw8 d1 d2 d1r d2r X
          go_wp2_with fail
          go_roundw
          case rel => exact ⟨j + 1 + 1, E2, by omega, by go_num, by have := HE2v.out; go_num, HE2, HE2b.out, X8⟩
          case measure => simp [intOf]; omega
      · obtain rfl : k = n := by omega
        have hQE : (Q.size : Int) = (E : Int) := by rw [HQ.out, HE.out, List.take_of_length_le (by rw [HN.out]; exact Nat.le_refl _)]
        have e1 : ((Q.size : Int) == (E : Int)) = true := by rw [beq_iff_eq]; exact hQE
        clear hQE
        go_wp2
        go_returns
        exact ⟨rfl, X⟩
  · have HW := hid (fwrite_of l _ 2 (Front.wrt_bad (l := l) (fun h => hf ⟨by omega, h.2⟩)) A n cap w hn hr hnl)
    clear hr hn hnl hf HN
    go_enter Try.func9, Try.ntmps9
    go_wp2_with (first
      | (go_at_call 15; refine HW.out.mono ?_; rintro e w1 ⟨rfl, b1⟩)
      | (go_at_call 18; refine (frontBegun_any _).mono ?_; rintro e w4 ⟨rfl, b4⟩))
    go_returns
    exact ⟨rfl, b1.then b4⟩
end Go.Proofs.Ytgobnpogmghgkaa
