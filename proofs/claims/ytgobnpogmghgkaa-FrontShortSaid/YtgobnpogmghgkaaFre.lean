/- Front: Read: walk. -/
import Derived.Test.YtgobnpogmghgkaaRows
import Derived.Test.YtgobnpogmghgkaaFrd
namespace Go.Proofs.Ytgobnpogmghgkaa
open Go.RowKit Hy
theorem rowTx : RowT Try.prog 22 9 1 16 := RowT.mk' (z := .string ⟨#[]⟩) Try.underlying22 (by kernel_rfl) rfl (by decide)

set_option maxHeartbeats 1600000 in
theorem fread_any (s0 : ByteArray) (many : Int) (w : World) (hs : s0.size ≤ 281474976710656) :
    Calls Try.prog 21 #[.string s0, .int .i64 many] w (TextsOut (Front.rdl s0.data.toList many).1 (Front.rdl s0.data.toList many).2 w) := by
  by_cases h1 : many < 0
  · rw [Front.rdl_neg h1]
    go_enter Try.func21, Try.ntmps21
    go_wp2
    go_returns
    exact ⟨none, 0, rfl, fun h => by simp [txs] at h, ext_refl _⟩
  · by_cases h2 : 64 < many
    · rw [Front.rdl_many h2]
      go_enter Try.func21, Try.ntmps21
      go_wp2
      go_returns
      exact ⟨none, 0, rfl, fun h => by simp [txs] at h, ext_refl _⟩
    · obtain ⟨mm, rfl⟩ := Int.eq_ofNat_of_zero_le (show 0 ≤ many by omega)
      have hm : mm ≤ 64 := by omega
      have hmI : (mm : Int) ≤ 64 := by omega
      obtain ⟨M, hM⟩ : ∃ M, M = Front.rds mm s0.data.toList [] := ⟨_, rfl⟩
      have HR : Hid (Front.rdl s0.data.toList mm = if M.2 = 0 then M else ([], M.2)) := by rw [hM]; exact hid (Front.rdl_in hm)
      have HM := hid hM
      have hs0 : s0.data.toList.length = s0.size := Array.length_toList
      have HS0 := hid hs0
      have HSS := hid hs
      generalize Front.rdl s0.data.toList mm = R at *
      clear hM h1 h2 hs0 hs
      go_enter Try.func21, Try.ntmps21
      go_wp2
      go_loopw [6, 8, 9, 20] (fun v _ _ c wr => ∃ (k : Nat) (acc : List (List UInt8)) (s last : List UInt8), k ≤ mm ∧ c = .int .i64 k ∧ acc.length = k ∧ Hid (M = (acc ++ (Front.rds (mm - k) s last).1, (Front.rds (mm - k) s last).2)) ∧ s.length ≤ 281474976710656 ∧ last.length ≤ 16 ∧ Blk wr w.heap.size 62 #[.string ⟨s.toArray⟩, .string ⟨last.toArray⟩] ∧ wr.ownsRow (w.heap.size + 1) 9 1 v acc.length (txs acc) ∧ Ext w wr) (fun _ _ _ c _ => mm - (intOf c).toNat)
      case atStart => exact ⟨0, [], s0.data.toList, [], Nat.zero_le _, rfl, rfl, hid (by rw [HM.out]; rfl), by rw [HS0.out]; exact HSS.out, Nat.zero_le _, Blk.new _ _ _, World.ownsRow_nil _ _ _ _, (ext_refl _).new _⟩
      case round =>
        obtain ⟨k, acc, s, last, hk, rfl, hacc, HI, hs, hl, B, hown, X⟩ := hrel
        have HO := hid hown
        have HB := hid B
        by_cases hlt : k < mm
        · obtain ⟨t, r, e, hrd⟩ : ∃ t r e, Front.txt s last = (t, r, e) := ⟨_, _, _, rfl⟩
          have CT : Calls Try.prog 40 #[.pointer (some ⟨w.heap.size, 0, none⟩)] wr fun e' w' => e' = .returned (.tuple #[.string ⟨t.toArray⟩, .int .i64 (e : Nat)]) ∧ But w.heap.size wr w' ∧ (e = 0 → Blk w' w.heap.size 62 #[.string ⟨r.toArray⟩, .string ⟨t.toArray⟩]) :=
            (text_any s last w.heap.size wr B hs hl).mono fun e' w' h => by simp only [TextOut, hrd] at h; exact h
          have HCT := hid CT
          have hj : mm - k = mm - (k + 1) + 1 := by omega
          have e2 := HI.out
          rw [hj] at e2
          by_cases he : e = 0
          · subst he
            rw [Front.rds_ok hrd] at e2
            obtain ⟨ht1, ht2⟩ := Front.txt_ok hl hrd
            have hrl : r.length ≤ 281474976710656 := by
              have := congrArg List.length ht1
              rw [List.length_append] at this
              omega
            have HE := hid (show M = ((acc ++ [t]) ++ (Front.rds (mm - (k + 1)) r t).1, (Front.rds (mm - (k + 1)) r t).2) by rw [e2]; simp)
            clear CT hrd e2 ht1 HI hown B hs hl hj
            have HRL := hid hrl
            have HTL := hid ht2
            have HACI := hid (show acc.length ≤ 64 by omega)
            clear hrl ht2 hm
            go_wp2_with (first
              | (go_at_call 40; refine HCT.out.mono ?_; intro e w2 h; obtain ⟨rfl, x2, q2⟩ := h; have B2 := hid (q2 (by trivial)); have X2 := hid x2; clear x2 q2; have O2 := hid (own_but HO.out X2.out (Nat.lt_succ_self _)))
              | (at_builtin; refine wpList_app rfl (.tmp 30) (.tmp 32) rowTx rfl _ acc.length _ rfl (O2.out.alloc _) _ 1 (txs [t]) rfl (Src.rd Try.underlying22 _ 1 1 _ rfl (rd_lit rfl rfl) (txs_one _) (fun h => by cases h)) (by have := HACI.out; unfold maxLen; omega) (by have := HACI.out; omega) (by have := B2.out.lt; simp; omega) ?_; intro v' w3 hown3 hgrow hat hbel; have O3 := hid hown3; have B3 := hid ((B2.out.alloc _).below hbel (Nat.lt_succ_self _)); have X3 : Hid (Ext w w3) := hid ((Ext.new (X.trans (X2.out.below (Nat.le_refl _) X.size)) _).trans (hbel.mono (Nat.le_succ _))); clear hown3 hgrow hat hbel))
            go_roundw
            case rel => exact ⟨k + 1, acc ++ [t], r, t, by omega, by go_num, by rw [List.length_append]; simp; omega, HE, HRL.out, HTL.out, B3.out, by rw [txs_app, List.length_append]; exact O3.out, X3.out⟩
            case measure => simp [intOf]; omega
          · rw [Front.rds_bad hrd he] at e2
            simp only [List.append_nil] at e2
            have HE := hid (show R = ([], e) by rw [HR.out, e2]; simp [he])
            have h3 : ((e : Int) != 0) = true := by rw [bne_iff_ne]; omega
            have h4 : ((e : Int) == 0) = false := by rw [beq_eq_false_iff_ne]; omega
            clear CT hrd e2 HI hown B hs hl hj he HR
            go_wp2_with (go_at_call 40; refine HCT.out.mono ?_; intro e w2 h; obtain ⟨rfl, X2, _⟩ := h; have X2 := hid X2)
            go_returns
            exact ⟨none, 0, by rw [HE.out]; rfl, fun h => by rw [HE.out] at h; simp [txs] at h, X.trans (X2.out.below (Nat.le_refl _) X.size)⟩
        · obtain rfl : k = mm := by omega
          have e2 := HI.out
          rw [Nat.sub_self] at e2
          have hc0 := B.cell 0
          by_cases hs0 : s = []
          · subst hs0
            have HE := hid (show R = (acc, 0) by rw [HR.out, e2]; simp [Front.rds])
            clear e2 HI hown B hs hl HR
            go_wp2
            obtain ⟨A, cap, rfl, hrd, hA, _⟩ := Rd.owned HO.out
            go_returns
            exact ⟨A, cap, by rw [HE.out]; rfl, by rw [HE.out]; exact hrd, X⟩
          · have HE := hid (show R = ([], 1) by rw [HR.out, e2]; simp [Front.rds, hs0])
            obtain ⟨XX, hXX⟩ : ∃ XX : ByteArray, XX = ⟨s.toArray⟩ := ⟨_, rfl⟩
            have e1 : XX.toList.isEmpty = false := by
              rw [hXX, ByteArray.toList_mk]; simpa using hs0
            rw [← hXX] at hc0
            clear e2 HI hown B hs hl HR hs0 hXX
            go_wp2
            go_returns
            exact ⟨none, 0, by rw [HE.out]; rfl, fun h => by rw [HE.out] at h; simp [txs] at h, X⟩
end Go.Proofs.Ytgobnpogmghgkaa
