/- Hybrid: the document's HybridOf: walk (printed by gen_hof.py). -/
import Derived.Test.YtdblegdbfdhepaaHyi
import Derived.Test.YtdblegdbfdhepaaHyc
import Derived.Test.YtdblegdbfdhepaaVvo
namespace Hy.Hyb
open Go
theorem take_more {L : List Nat} {i lf x : Nat} (hx : L[i]? = some x) (h : i < lf) : (L.take (i + 1)).take lf = (L.take i).take lf ++ [x] := by
  rw [List.take_take, List.take_take, Nat.min_eq_right (by omega), Nat.min_eq_right (by omega), List.take_add_one, hx]; simp
theorem take_same {L : List Nat} {i lf : Nat} (h : lf ≤ i) : (L.take (i + 1)).take lf = (L.take i).take lf := by
  rw [List.take_take, List.take_take, Nat.min_eq_left (by omega), Nat.min_eq_left h]
end Hy.Hyb
namespace Go.Proofs.Ytdblegdbfdhepaa
open Go.RowKit Hy
set_option maxRecDepth 100000 in
set_option maxHeartbeats 6400000 in
theorem hybridOf_any (s0 : ByteArray) (many wd : Int) (w : World) (hs0 : s0.size ≤ 281474976710656) :
    Calls Try.prog 25 #[.string s0, .int .i64 many, .int .i64 wd] w (NumsOut (Hyb.rdl s0.data.toList many wd).1 (Hyb.rdl s0.data.toList many wd).2 w) := by
  by_cases h0 : wd < 0
  · rw [Hyb.rdl_range (.inl (.inl h0))]
    go_enter Try.func25, Try.ntmps25
    go_wp2
    go_returns
    exact ⟨none, 0, rfl, fun h => by simp [u64s] at h, ext_refl _⟩
  by_cases h1 : 64 < wd
  · rw [Hyb.rdl_range (.inl (.inr h1))]
    go_enter Try.func25, Try.ntmps25
    go_wp2
    go_returns
    exact ⟨none, 0, rfl, fun h => by simp [u64s] at h, ext_refl _⟩
  by_cases h2 : many < 0
  · rw [Hyb.rdl_range (.inr h2)]
    go_enter Try.func25, Try.ntmps25
    go_wp2
    go_returns
    exact ⟨none, 0, rfl, fun h => by simp [u64s] at h, ext_refl _⟩
  by_cases h3 : 64 < many
  · rw [Hyb.rdl_many (by omega) h3]
    go_enter Try.func25, Try.ntmps25
    go_wp2
    go_returns
    exact ⟨none, 0, rfl, fun h => by simp [u64s] at h, ext_refl _⟩
  obtain ⟨mm, rfl⟩ := Int.eq_ofNat_of_zero_le (show 0 ≤ many by omega)
  obtain ⟨wn, rfl⟩ := Int.eq_ofNat_of_zero_le (show 0 ≤ wd by omega)
  have hm : mm ≤ 64 := by omega
  have hwn : wn ≤ 64 := by omega
  have hmI : (mm : Int) ≤ 64 := by omega
  have hwI : (wn : Int) ≤ 64 := by omega
  rw [Hyb.rdl_in hwn hm]
  obtain ⟨M, hM⟩ : ∃ M, M = Hyb.rdF wn mm mm s0.data.toList [] := ⟨_, rfl⟩
  rw [← hM]
  have HM := hid hM
  have HMM := hid hm
  have HWN := hid hwn
  have HS0 := hid hs0
  clear hM h0 h1 h2 h3 hm hwn hs0
  go_enter Try.func25, Try.ntmps25
  go_wp2
  go_loopw [0, 8, 9, 10, 11, 12, 13, 14, 15, 16, 17, 18] (fun t v _ _ _ _ _ _ _ _ _ _ wr => ∃ (XX : ByteArray) (o : List Nat) (f : Nat), t = .string XX ∧ XX.size ≤ 281474976710656 ∧ Hid (wr.ownsRow w.heap.size 33 1 v o.length (u64s o)) ∧ Hid (o.length ≤ mm) ∧ Hid (mm ≤ o.length + f) ∧ Hid (M = Hyb.rdF wn mm f XX.data.toList o) ∧ Ext w wr) (fun _ v _ _ _ _ _ _ _ _ _ _ _ => mm - sLen v)
  case atStart => exact ⟨s0, [], mm, rfl, HS0.out, hid (World.ownsRow_nil _ _ _ _), hid (Nat.zero_le _), hid (by simp), HM, ext_refl _⟩
  case round =>
    obtain ⟨XX, o, f, rfl, hsz, HO, HOL, HF, HI, X⟩ := hrel
    have HX := hid X
    clear X
    obtain ⟨A2, c2, rfl, hrd0, _⟩ := Rd.owned HO.out
    have HRD := hid hrd0
    clear hrd0
    by_cases hlt : o.length < mm
    · have hltI : (o.length : Int) < (mm : Int) := by omega
      obtain ⟨fn, hf⟩ : ∃ fn, f = fn + 1 := ⟨f - 1, by have := HF.out; omega⟩
      have HBAD := hid (fun er (he : er ≠ 0) (h : (Hyb.stp wn (mm - o.length) XX.data.toList).1 = er) => show M = ([], er) by rw [HI.out, hf, Hyb.rdF_bad wn mm fn _ o hlt (by rw [h]; exact he), h])
      have HGOOD := hid (fun l k (h : Hyb.stp wn (mm - o.length) XX.data.toList = (0, l, k)) => show M = Hyb.rdF wn mm fn (XX.data.toList.drop k) (o ++ l) by rw [HI.out, hf, Hyb.rdF_ok wn mm fn _ o l k hlt h])
      obtain ⟨lf, hlf⟩ : ∃ lf, lf = mm - o.length := ⟨_, rfl⟩
      rw [← hlf] at HBAD HGOOD
      have hlfI : (mm : Int) - (o.length : Int) = (lf : Int) := by omega
      have hlf1 : 1 ≤ lf := by omega
      have hlf64 : lf ≤ 64 := by have := HMM.out; omega
      have hlfI2 : (lf : Int) ≤ 64 := by omega
      have HLF := hid (show o.length + lf = mm by omega)
      have HFN := hid (show mm ≤ o.length + fn + 1 by have := HF.out; omega)
      have hXs : XX.data.toList.length = XX.size := Array.length_toList
      obtain ⟨a, k, e, hrd⟩ : ∃ a k e, Vary.rd XX.data.toList = (a, k, e) := ⟨_, _, _, rfl⟩
      have CR : ∀ wx : World, Hid (Calls Try.prog 57 #[.string XX] wx fun e' w' => e' = .returned (.tuple #[.int .u64 a, .int .i64 k, .int .i64 e]) ∧ Ext wx w') := fun wx => by
        have := varyOf_any XX wx hsz
        rw [hrd] at this
        exact hid this
      clear hf HI HF hlf
      by_cases he : e = 0
      · subst he
        obtain ⟨r1, r2, r3, r4, _⟩ := Vary.rd_ok (s := XX.data.toList) (by rw [hrd])
        rw [hrd] at r1 r2 r3 r4
        simp only at r1 r2 r3 r4
        rw [hXs] at r2
        have hT := fun wx : World => run_from (P := Try.prog) (w := wx) Try.underlying9 XX .i64 k r2
        obtain ⟨XD, hXD⟩ : ∃ XD : ByteArray, XD = ⟨(XX.data.toList.drop k).toArray⟩ := ⟨_, rfl⟩
        rw [← hXD] at hT
        have HXD := hid (show XD.data.toList = XX.data.toList.drop k by rw [hXD])
        have hds : XD.size = XX.size - k := by rw [hXD, str_size, List.length_drop, hXs]
        have hdI : (XD.size : Int) ≤ 281474976710656 := by omega
        have HDL := hid (show XD.data.toList.length = XD.size from Array.length_toList)
        have haI : (a : Int) ≤ 18446744073709551615 := by omega
        obtain ⟨q, hq⟩ : ∃ q, q = a / 2 := ⟨_, rfl⟩
        have hq1 : (a : Int) / 2 = (q : Int) := by omega
        have hq2 : (a : Int).tdiv 2 = (q : Int) := by rw [Int.tdiv_eq_ediv_of_nonneg (by omega)]; omega
        have hqI : (q : Int) ≤ 9223372036854775807 := by omega
        obtain ⟨mo, hmo⟩ : ∃ mo, mo = (lf + 7) / 8 := ⟨_, rfl⟩
        have hmo3 : ((lf : Int) + 7) / 8 = (mo : Int) := by omega
        have hmo4 : ((lf : Int) + 7).tdiv 8 = (mo : Int) := by rw [Int.tdiv_eq_ediv_of_nonneg (by omega)]; omega
        have hmoI : (mo : Int) ≤ 8 := by omega
        have hkI : (k : Int) ≤ 9 := by omega
        have hu1 : IntKind.u64.wrap (mo : Int) = (mo : Int) := by rw [IntKind.wrap_u64]; omega
        have hu2 : IntKind.u64.wrap (lf : Int) = (lf : Int) := by rw [IntKind.wrap_u64]; omega
        have hu3 : IntKind.i64.wrap (q : Int) = (q : Int) := by rw [IntKind.wrap_i64]; omega
        clear hXs hsz hXD hds r1 r2 r3 r4
        by_cases hlow : a < 2
        · have HE := hid (HBAD.out 1 (by decide) (by rw [Hyb.stp_low hrd hlow]))
          have hlowI : (a : Int) < 2 := by omega
          clear hrd hq hmo hlow hlf1 hlf64 hlt
          go_wp2_with fail
          refine Calls.mono (CR _).out ?_
          rintro e w1 ⟨rfl, hx⟩
          have HX1 := hid (HX.out.then hx)
          clear hx
          go_wp2
          go_returns
          exact ⟨none, 0, by rw [HE.out]; rfl, fun h => by rw [HE.out] at h; simp [u64s] at h, HX1.out⟩
        · have hlowI : (2 : Int) ≤ (a : Int) := by omega
          rcases Nat.mod_two_eq_zero_or_one a with hp | hp
          · have hp1 : (a : Int) % 2 = 0 := by omega
            have hp2 : (a : Int).tmod 2 = 0 := by rw [Int.tmod_eq_emod_of_nonneg (by omega)]; omega
            have hp3 : ((a : Int) % 2 == 1) = false := by rw [beq_eq_false_iff_ne]; omega
            by_cases hov : lf < q
            · have HE := hid (HBAD.out 2 (by decide) (by rw [Hyb.stp_over hrd (by omega) (by rw [if_pos hp]; omega)]))
              have hgt : (lf : Int) < (q : Int) := by omega
              clear hrd hq hmo hlow hlf1 hlf64 hlt hov hp
              go_wp2_with fail
              refine Calls.mono (CR _).out ?_
              rintro e w1 ⟨rfl, hx⟩
              have HX1 := hid (HX.out.then hx)
              replace HO := hid (own_ext HO.out hx)
              clear hx
              go_wp2
              go_returns
              exact ⟨none, 0, by rw [HE.out]; rfl, fun h => by rw [HE.out] at h; simp [u64s] at h, HX1.out⟩
            · have hgt : (q : Int) ≤ (lf : Int) := by omega
              have hqp : (1 : Int) ≤ (q : Int) := by omega
              obtain ⟨z, hz⟩ : ∃ z, z = 1 := ⟨_, rfl⟩
              have hez : Hyb.each a = z := by unfold Hyb.each; rw [if_pos hp, hz]
              have hzw : z * wn = wn := by rw [hz, Nat.one_mul]
              have hz64 : z ≤ 64 := by omega
              have hzI : (z : Int) ≤ 64 := by omega
              have HZ64 := hid hz64
              obtain ⟨sz, hsz⟩ : ∃ sz, sz = Bits.size z wn := ⟨_, rfl⟩
              have hsz2 : sz = (wn + 7) / 8 := by rw [hsz]; unfold Bits.size; rw [hzw]
              have hs1 : ((wn : Int) + 7).tdiv 8 = (sz : Int) := by rw [Int.tdiv_eq_ediv_of_nonneg (by omega)]; omega
              have hs2 : ((wn : Int) + 7) / 8 = (sz : Int) := by omega
              have hszI : (sz : Int) ≤ 512 := by omega
              have HSZ := hid hsz
              have HWRONG := hid (fun er (he : er ≠ 0) (h : (Hyb.nmb wn z (XX.data.toList.drop k)).2.1 = er) => HBAD.out er he (by
                rw [Hyb.stp_wrong hrd (by omega) (by rw [if_pos hp]; omega) HWN.out hlf64 (by rw [hez, h]; exact he), hez, h]))
              rw [← HXD.out] at HWRONG
              by_cases hsh : XD.size < sz
              · have HE := hid (HWRONG.out 5 (by decide) (by rw [Hyb.nmb_none (by rw [← hsz, HDL.out]; exact hsh)]))
                have hshI : (XD.size : Int) < (sz : Int) := by omega
                clear hrd hq hmo hlow hlf1 hlf64 hlt hov hp hz hez hz64 hsz hsz2 hsh hzw
                go_wp2_with fail
                refine Calls.mono (CR _).out ?_
                rintro e w1 ⟨rfl, hx⟩
                have HX1 := hid (HX.out.then hx)
                replace HO := hid (own_ext HO.out hx)
                clear hx
                go_wp2
                go_returns
                exact ⟨none, 0, by rw [HE.out]; rfl, fun h => by rw [HE.out] at h; simp [u64s] at h, HX1.out⟩
              · have hshI : (sz : Int) ≤ (XD.size : Int) := by omega
                have hdq : decide (lf < q) = false := by rw [decide_eq_false_iff_not]; omega
                have hdz : decide (XD.size < sz) = false := by rw [decide_eq_false_iff_not]; omega
                have hshN : Bits.size z wn ≤ XD.data.toList.length := by rw [HDL.out, ← hsz]; omega
                have HFORM := hid (fun b h1 h2 h3 => Hyb.nmb_form XD.data.toList z wn b hshN HWN.out hz64 h1 h2 h3)
                have HNUMS := hid (fun h => Hyb.nmb_good XD.data.toList z wn hshN HWN.out hz64 h)
                have HAT := hid (fun i (hi : i < z) => Hyb.nums_at XD.data.toList z wn i hshN hi)
                have HNL := hid (Hyb.nums_len XD.data.toList z wn)
                have HTB := hid (fun (b : Nat) (hb : b < 8 * sz) (wx : World) => textBit_any XD b wx (by omega) (by omega))
                have HBA := hid (fun (i : Nat) (hi : i < z) (wx : World) => bitsAt_any XD (i * wn) wn wx HWN.out (by have := Hyb.size_bits' z wn i hi; rw [← hsz] at this; omega) (by have := Hyb.size_bits' z wn i hi; rw [← hsz] at this; omega))
                have hT2 := fun wx : World => run_from (P := Try.prog) (w := wx) Try.underlying9 XD .i64 sz (by omega)
                obtain ⟨XE, hXE⟩ : ∃ XE : ByteArray, XE = ⟨(XD.data.toList.drop sz).toArray⟩ := ⟨_, rfl⟩
                rw [← hXE] at hT2
                have HXE := hid (show XE.data.toList = XX.data.toList.drop (k + sz) by rw [hXE, HXD.out, List.drop_drop])
                have HXES := hid (show XE.size ≤ 281474976710656 by rw [hXE, str_size, List.length_drop, HDL.out]; omega)
                obtain ⟨N, hN⟩ : ∃ N, N = Hyb.nums XD.data.toList z wn := ⟨_, rfl⟩
                rw [← hN] at HNUMS HAT HNL
                rw [hzw, ← hsz] at HFORM HNUMS
                have HROW := hid (Hyb.stp_row (w := wn) (left := lf) hrd (by omega) hp (by omega))
                rw [← HXD.out] at HROW
                simp only [← hz] at HROW
                rw [← hsz] at HROW
                have HQ := hid hq
                have hpsz : wn ≤ 8 * sz := by omega
                clear hrd hq hmo hlow hlf1 hlf64 hlt hov hp hz hez hz64 hsz hsz2 hsh hshN hXE hN hzw
                go_wp2_with fail
                refine Calls.mono (CR _).out ?_
                rintro e w1 ⟨rfl, hx⟩
                have HX1 := hid (HX.out.then hx)
                replace HO := hid (own_ext HO.out hx)
                clear hx
                obtain ⟨V, hV⟩ : ∃ V, V = Bits.le XD.data.toList := ⟨_, rfl⟩
                rw [← hV] at HFORM HNUMS HAT
                simp only [← hV] at HTB HBA
                clear hV
                go_wp2
                go_loopw [15] (fun c wr => ∃ b : Nat, wn ≤ b ∧ b ≤ 8 * sz ∧ c = .int .i64 b ∧ Hid (∀ i, wn ≤ i → i < b → V / 2 ^ i % 2 = 0) ∧ wr = w1) (fun c _ => 8 * sz - (intOf c).toNat)
                case atStart => exact ⟨wn, Nat.le_refl _, hpsz, rfl, hid (fun i h1 h2 => absurd h2 (by omega)), rfl⟩
                case round =>
                  obtain ⟨b, hb1, hb2, rfl, HZ, rfl⟩ := hrel
                  by_cases hlt : b < 8 * sz
                  · have CT := fun wx : World => hid (HTB.out b hlt wx)
                    have hltI : (b : Int) < 8 * (sz : Int) := by omega
                    have hbit : V / 2 ^ b % 2 = 0 ∨ V / 2 ^ b % 2 = 1 := by have := Nat.mod_lt (V / 2 ^ b) (show 0 < 2 by decide); omega
                    rcases hbit with h0 | h0
                    · rw [h0] at CT
                      have HZ2 := hid (show ∀ i, wn ≤ i → i < b + 1 → V / 2 ^ i % 2 = 0 from fun i h1 h2 => by
                        rcases Nat.lt_or_ge i b with h | h
                        · exact HZ.out i h1 h
                        · rw [show i = b by omega]; exact h0)
                      clear h0
                      go_wp2_with (go_at_call 58; refine (CT _).out.mono ?_; rintro e w2 ⟨rfl, rfl⟩)
                      go_roundw
                      case rel => exact ⟨b + 1, by omega, by omega, by go_num, HZ2, trivial⟩
                      case measure => simp [intOf]; omega
                    · have HE := hid (HWRONG.out 1 (by decide) (HFORM.out b hb1 hlt h0))
                      rw [h0] at CT
                      clear h0
                      go_wp2_with (go_at_call 58; refine (CT _).out.mono ?_; rintro e w2 ⟨rfl, rfl⟩)
                      go_returns
                      exact ⟨none, 0, by rw [HE.out]; rfl, fun h => by rw [HE.out] at h; simp [u64s] at h, HX1.out⟩
                  · have hltI : ¬ (b : Int) < 8 * (sz : Int) := by omega
                    have HN := hid (HNUMS.out (fun i h1 h2 => HZ.out i h1 (by omega)))
                    rw [HN.out] at HROW
                    clear hlt HZ HNUMS HFORM HTB HWRONG
                    obtain ⟨x, hnx, hst, _⟩ := HROW.out rfl
                    have HE := hid (HGOOD.out _ _ hst)
                    have hz1 : 0 < z := by have := congrArg List.length hnx; simp only [List.length_singleton] at this; rw [HNL.out] at this; omega
                    have hx0 := HAT.out 0 hz1
                    simp only at hnx
                    rw [hnx] at hx0
                    have HX0 := hid (show x = V / 2 ^ (0 * wn) % 2 ^ wn by simpa using hx0)
                    have CB := hid (fun wx => show Calls Try.prog 59 #[.string XD, .int .i64 0, .int .i64 wn] wx fun e w' => e = .returned (.int .u64 (x : Int)) ∧ wx = w' from by
                      have := HBA.out 0 hz1 wx
                      rw [← HX0.out, Nat.zero_mul] at this
                      exact this)
                    have hxlt : x < 18446744073709551616 := by
                      rw [HX0.out]
                      have h1 : V / 2 ^ (0 * wn) % 2 ^ wn < 2 ^ wn := Nat.mod_lt _ (Nat.two_pow_pos wn)
                      have h2 : 2 ^ wn ≤ 2 ^ 64 := Nat.pow_le_pow_right (by decide) HWN.out
                      omega
                    have hxI : (x : Int) ≤ 18446744073709551615 := by omega
                    have HXE2 := hid (show M = Hyb.rdF wn mm fn XE.data.toList (o ++ List.replicate q x) by rw [HE.out, HXE.out, ← HQ.out])
                    clear hst hnx hx0 hz1 hxlt HROW HAT HNL HBA HE HX0 HN HGOOD HBAD
                    go_wp2
                    go_loopw [8, 16] (fun v c wr => ∃ i : Nat, i ≤ q ∧ c = .int .i64 i ∧ Hid (wr.ownsRow w.heap.size 33 1 v (o ++ List.replicate i x).length (u64s (o ++ List.replicate i x))) ∧ Ext w wr) (fun _ c _ => q - (intOf c).toNat)
                    case atStart => exact ⟨0, Nat.zero_le _, rfl, by rw [List.replicate_zero, List.append_nil]; exact HO, HX1.out⟩
                    case round =>
                      obtain ⟨i, hi, rfl, HO2, X⟩ := hrel
                      by_cases hlt : i < q
                      · have hltI : (i : Int) < (q : Int) := by omega
                        obtain ⟨Q, hQ⟩ : ∃ Q, Q = o ++ List.replicate i x := ⟨_, rfl⟩
                        rw [← hQ] at HO2
                        have HQ1 := hid (show o ++ List.replicate (i + 1) x = Q ++ [x] by rw [hQ, List.replicate_succ', List.append_assoc])
                        have HQL := hid (show Q.length ≤ 64 by rw [hQ, List.length_append, List.length_replicate]; have := HLF.out; have := HMM.out; omega)
                        clear hQ
                        go_wp2_with (first
                          | (go_at_call 59; refine (CB.out _).mono ?_; rintro e w2 ⟨rfl, rfl⟩)
                          | (at_builtin; refine wpList_app rfl (.tmp 116) (.tmp 120) rowU64 rfl _ Q.length _ rfl (own_ext HO2.out ((ext_refl _).new _)) _ 1 (u64s [x]) rfl (Src.rd Try.underlying22 _ 1 1 _ rfl (rd_lit rfl rfl) (u64s_one _) (fun h => by cases h)) (by have := HQL.out; unfold maxLen; omega) (by have := HQL.out; omega) (by have := X.size; simp; omega) ?_; intro v' w3 hown3 hgrow hat hbel; have O3 := hid hown3; have X3 := hid ((X.new _).trans hbel); clear hown3 hgrow hat hbel))
                        go_roundw
                        case rel => exact ⟨i + 1, by omega, by go_num, hid (by rw [HQ1.out, List.length_append, u64s_app]; exact O3.out), X3.out⟩
                        case measure => simp [intOf]; omega
                      · obtain rfl : i = q := by omega
                        obtain ⟨A3, c3, rfl, _⟩ := Rd.owned HO2.out
                        go_wp2
                        go_roundw
                        case rel => exact ⟨XE, o ++ List.replicate i x, fn, rfl, HXES.out, HO2, hid (by rw [List.length_append, List.length_replicate]; have := HLF.out; omega), hid (by rw [List.length_append, List.length_replicate]; have := HFN.out; omega), HXE2, X⟩
                        case measure => simp [sLen]; omega
          · have hp1 : (a : Int) % 2 = 1 := by omega
            have hp2 : (a : Int).tmod 2 = 1 := by rw [Int.tmod_eq_emod_of_nonneg (by omega)]; omega
            have hp3 : ((a : Int) % 2 == 0) = false := by rw [beq_eq_false_iff_ne]; omega
            by_cases hov : mo < q
            · have HE := hid (HBAD.out 2 (by decide) (by rw [Hyb.stp_over hrd (by omega) (by rw [if_neg (by omega)]; omega)]))
              have hgt : (mo : Int) < (q : Int) := by omega
              clear hrd hq hmo hlow hlf1 hlf64 hlt hov hp
              go_wp2_with fail
              refine Calls.mono (CR _).out ?_
              rintro e w1 ⟨rfl, hx⟩
              have HX1 := hid (HX.out.then hx)
              replace HO := hid (own_ext HO.out hx)
              clear hx
              go_wp2
              go_returns
              exact ⟨none, 0, by rw [HE.out]; rfl, fun h => by rw [HE.out] at h; simp [u64s] at h, HX1.out⟩
            · have hgt : (q : Int) ≤ (mo : Int) := by omega
              have hqp : (1 : Int) ≤ (q : Int) := by omega
              obtain ⟨z, hz⟩ : ∃ z, z = q * 8 := ⟨_, rfl⟩
              have hez : Hyb.each a = z := by unfold Hyb.each; rw [if_neg (by omega), hz, hq]
              have hz1 : (q : Int) * 8 = (z : Int) := by omega
              have hu4 : IntKind.i64.wrap (z : Int) = (z : Int) := by rw [IntKind.wrap_i64]; omega
              have hu5 : IntKind.u64.wrap (z : Int) = (z : Int) := by rw [IntKind.wrap_u64]; omega
              have hz64 : z ≤ 64 := by omega
              have hzI : (z : Int) ≤ 64 := by omega
              have HZ64 := hid hz64
              obtain ⟨p, hp0⟩ : ∃ p, p = z * wn := ⟨_, rfl⟩
              have hpb : p ≤ 64 * 64 := by rw [hp0]; exact Nat.mul_le_mul hz64 HWN.out
              have hpI : (p : Int) ≤ 4096 := by omega
              have hmul : (z : Int) * (wn : Int) = (p : Int) := by rw [hp0]; simp
              obtain ⟨sz, hsz⟩ : ∃ sz, sz = Bits.size z wn := ⟨_, rfl⟩
              have hsz2 : sz = (p + 7) / 8 := by rw [hsz, hp0]; rfl
              have hs1 : ((p : Int) + 7).tdiv 8 = (sz : Int) := by rw [Int.tdiv_eq_ediv_of_nonneg (by omega)]; omega
              have hs2 : ((p : Int) + 7) / 8 = (sz : Int) := by omega
              have hszI : (sz : Int) ≤ 512 := by omega
              have HP0 := hid hp0
              have HSZ := hid hsz
              have HWRONG := hid (fun er (he : er ≠ 0) (h : (Hyb.nmb wn z (XX.data.toList.drop k)).2.1 = er) => HBAD.out er he (by
                rw [Hyb.stp_wrong hrd (by omega) (by rw [if_neg (by omega)]; omega) HWN.out hlf64 (by rw [hez, h]; exact he), hez, h]))
              rw [← HXD.out] at HWRONG
              by_cases hsh : XD.size < sz
              · have HE := hid (HWRONG.out 5 (by decide) (by rw [Hyb.nmb_none (by rw [← hsz, HDL.out]; exact hsh)]))
                have hshI : (XD.size : Int) < (sz : Int) := by omega
                clear hrd hq hmo hlow hlf1 hlf64 hlt hov hp hz hez hz64 hp0 hpb hsz hsz2 hsh
                go_wp2_with fail
                refine Calls.mono (CR _).out ?_
                rintro e w1 ⟨rfl, hx⟩
                have HX1 := hid (HX.out.then hx)
                replace HO := hid (own_ext HO.out hx)
                clear hx
                go_wp2
                go_returns
                exact ⟨none, 0, by rw [HE.out]; rfl, fun h => by rw [HE.out] at h; simp [u64s] at h, HX1.out⟩
              · have hshI : (sz : Int) ≤ (XD.size : Int) := by omega
                have hdq : decide (mo < q) = false := by rw [decide_eq_false_iff_not]; omega
                have hdz : decide (XD.size < sz) = false := by rw [decide_eq_false_iff_not]; omega
                have hshN : Bits.size z wn ≤ XD.data.toList.length := by rw [HDL.out, ← hsz]; omega
                have HFORM := hid (fun b h1 h2 h3 => Hyb.nmb_form XD.data.toList z wn b hshN HWN.out hz64 h1 h2 h3)
                have HNUMS := hid (fun h => Hyb.nmb_good XD.data.toList z wn hshN HWN.out hz64 h)
                have HAT := hid (fun i (hi : i < z) => Hyb.nums_at XD.data.toList z wn i hshN hi)
                have HNL := hid (Hyb.nums_len XD.data.toList z wn)
                have HTB := hid (fun (b : Nat) (hb : b < 8 * sz) (wx : World) => textBit_any XD b wx (by omega) (by omega))
                have HBA := hid (fun (i : Nat) (hi : i < z) (wx : World) => bitsAt_any XD (i * wn) wn wx HWN.out (by have := Hyb.size_bits' z wn i hi; rw [← hsz] at this; omega) (by have := Hyb.size_bits' z wn i hi; rw [← hsz] at this; omega))
                have hT2 := fun wx : World => run_from (P := Try.prog) (w := wx) Try.underlying9 XD .i64 sz (by omega)
                obtain ⟨XE, hXE⟩ : ∃ XE : ByteArray, XE = ⟨(XD.data.toList.drop sz).toArray⟩ := ⟨_, rfl⟩
                rw [← hXE] at hT2
                have HXE := hid (show XE.data.toList = XX.data.toList.drop (k + sz) by rw [hXE, HXD.out, List.drop_drop])
                have HXES := hid (show XE.size ≤ 281474976710656 by rw [hXE, str_size, List.length_drop, HDL.out]; omega)
                obtain ⟨N, hN⟩ : ∃ N, N = Hyb.nums XD.data.toList z wn := ⟨_, rfl⟩
                rw [← hN] at HNUMS HAT HNL
                rw [← hp0, ← hsz] at HFORM HNUMS
                have HROW := hid (Hyb.stp_blocks (w := wn) (left := lf) hrd (by omega) hp (by omega))
                rw [← HXD.out, ← hq, ← hz] at HROW
                rw [← hsz] at HROW
                have HQ := hid hq
                have hpsz : p ≤ 8 * sz := by omega
                clear hrd hq hmo hlow hlf1 hlf64 hlt hov hp hz hez hz64 hp0 hpb hsz hsz2 hsh hshN hXE hN
                go_wp2_with fail
                refine Calls.mono (CR _).out ?_
                rintro e w1 ⟨rfl, hx⟩
                have HX1 := hid (HX.out.then hx)
                replace HO := hid (own_ext HO.out hx)
                clear hx
                obtain ⟨V, hV⟩ : ∃ V, V = Bits.le XD.data.toList := ⟨_, rfl⟩
                rw [← hV] at HFORM HNUMS HAT
                simp only [← hV] at HTB HBA
                clear hV
                go_wp2
                go_loopw [15] (fun c wr => ∃ b : Nat, p ≤ b ∧ b ≤ 8 * sz ∧ c = .int .i64 b ∧ Hid (∀ i, p ≤ i → i < b → V / 2 ^ i % 2 = 0) ∧ wr = w1) (fun c _ => 8 * sz - (intOf c).toNat)
                case atStart => exact ⟨p, Nat.le_refl _, hpsz, rfl, hid (fun i h1 h2 => absurd h2 (by omega)), rfl⟩
                case round =>
                  obtain ⟨b, hb1, hb2, rfl, HZ, rfl⟩ := hrel
                  by_cases hlt : b < 8 * sz
                  · have CT := fun wx : World => hid (HTB.out b hlt wx)
                    have hltI : (b : Int) < 8 * (sz : Int) := by omega
                    have hbit : V / 2 ^ b % 2 = 0 ∨ V / 2 ^ b % 2 = 1 := by have := Nat.mod_lt (V / 2 ^ b) (show 0 < 2 by decide); omega
                    rcases hbit with h0 | h0
                    · rw [h0] at CT
                      have HZ2 := hid (show ∀ i, p ≤ i → i < b + 1 → V / 2 ^ i % 2 = 0 from fun i h1 h2 => by
                        rcases Nat.lt_or_ge i b with h | h
                        · exact HZ.out i h1 h
                        · rw [show i = b by omega]; exact h0)
                      clear h0
                      go_wp2_with (go_at_call 58; refine (CT _).out.mono ?_; rintro e w2 ⟨rfl, rfl⟩)
                      go_roundw
                      case rel => exact ⟨b + 1, by omega, by omega, by go_num, HZ2, trivial⟩
                      case measure => simp [intOf]; omega
                    · have HE := hid (HWRONG.out 1 (by decide) (HFORM.out b hb1 hlt h0))
                      rw [h0] at CT
                      clear h0
                      go_wp2_with (go_at_call 58; refine (CT _).out.mono ?_; rintro e w2 ⟨rfl, rfl⟩)
                      go_returns
                      exact ⟨none, 0, by rw [HE.out]; rfl, fun h => by rw [HE.out] at h; simp [u64s] at h, HX1.out⟩
                  · have hltI : ¬ (b : Int) < 8 * (sz : Int) := by omega
                    have HN := hid (HNUMS.out (fun i h1 h2 => HZ.out i h1 (by omega)))
                    rw [HN.out] at HROW
                    clear hlt HZ HNUMS HFORM HTB HWRONG
                    obtain ⟨hst, _⟩ := HROW.out rfl
                    have HST := hid hst
                    clear hst HROW HN
                    go_wp2
                    go_loopw [8, 17, 18] (fun v c _ wr => ∃ i : Nat, i ≤ z ∧ c = .int .i64 i ∧ Hid (wr.ownsRow w.heap.size 33 1 v (o ++ (N.take i).take lf).length (u64s (o ++ (N.take i).take lf))) ∧ Hid (∀ j, lf ≤ j → j < i → N[j]? = some 0) ∧ Ext w wr) (fun _ c _ _ => z - (intOf c).toNat)
                    case atStart => exact ⟨0, Nat.zero_le _, rfl, by rw [List.take_zero, List.take_nil, List.append_nil]; exact HO, hid (fun j _ h => by omega), HX1.out⟩
                    case round =>
                      obtain ⟨i, hi, rfl, HO2, HZZ, X⟩ := hrel
                      by_cases hlt : i < z
                      · have hltI : (i : Int) < (z : Int) := by omega
                        have hxi := HAT.out i hlt
                        have CB := hid (fun wx => HBA.out i hlt wx)
                        have hik : i * wn ≤ 64 * 64 := Nat.mul_le_mul (by have := HZ64.out; omega) HWN.out
                        have hmul2 : (i : Int) * (wn : Int) = ((i * wn : Nat) : Int) := by simp
                        have hxlt : V / 2 ^ (i * wn) % 2 ^ wn < 18446744073709551616 := by
                          have h1 : V / 2 ^ (i * wn) % 2 ^ wn < 2 ^ wn := Nat.mod_lt _ (Nat.two_pow_pos wn)
                          have h2 : 2 ^ wn ≤ 2 ^ 64 := Nat.pow_le_pow_right (by decide) HWN.out
                          omega
                        generalize V / 2 ^ (i * wn) % 2 ^ wn = x at *
                        generalize i * wn = ik at *
                        have hikI : (ik : Int) ≤ 4096 := by omega
                        have hxI : (x : Int) ≤ 18446744073709551615 := by omega
                        have HXI := hid hxi
                        clear hik hxlt hxi
                        by_cases hil : i < lf
                        · have hilI : (i : Int) < (lf : Int) := by omega
                          obtain ⟨Q, hQ⟩ : ∃ Q, Q = o ++ (N.take i).take lf := ⟨_, rfl⟩
                          rw [← hQ] at HO2
                          have HQ1 := hid (show o ++ (N.take (i + 1)).take lf = Q ++ [x] by rw [hQ, Hyb.take_more HXI.out hil, List.append_assoc])
                          have HQL := hid (show Q.length ≤ 128 by rw [hQ, List.length_append, List.length_take]; have := HLF.out; have := HMM.out; omega)
                          have HZ2 := hid (show ∀ j, lf ≤ j → j < i + 1 → N[j]? = some 0 from fun j h1 h2 => by omega)
                          clear hQ hil
                          go_wp2_with (first
                            | (go_at_call 59; refine (CB.out _).mono ?_; rintro e w2 ⟨rfl, rfl⟩)
                            | (at_builtin; refine wpList_app rfl (.tmp 143) (.tmp 145) rowU64 rfl _ Q.length _ rfl (own_ext HO2.out ((ext_refl _).new _)) _ 1 (u64s [x]) rfl (Src.rd Try.underlying22 _ 1 1 _ rfl (rd_lit rfl rfl) (u64s_one _) (fun h => by cases h)) (by have := HQL.out; unfold maxLen; omega) (by have := HQL.out; omega) (by have := X.size; simp; omega) ?_; intro v' w3 hown3 hgrow hat hbel; have O3 := hid hown3; have X3 := hid ((X.new _).trans hbel); clear hown3 hgrow hat hbel))
                          go_roundw
                          case rel => exact ⟨i + 1, by omega, by go_num, hid (by rw [HQ1.out, List.length_append, u64s_app]; exact O3.out), HZ2, X3.out⟩
                          case measure => simp [intOf]; omega
                        · have hilI : ¬ (i : Int) < (lf : Int) := by omega
                          have hilI2 : (lf : Int) ≤ (i : Int) := by omega
                          have HIL := hid hil
                          clear hil
                          by_cases hx0 : x = 0
                          · subst hx0
                            have HZ2 := hid (show ∀ j, lf ≤ j → j < i + 1 → N[j]? = some 0 from fun j h1 h2 => by
                              rcases Nat.lt_or_ge j i with h | h
                              · exact HZZ.out j h1 h
                              · rw [show j = i by omega]; exact HXI.out)
                            have HQ1 := hid (show o ++ (N.take (i + 1)).take lf = o ++ (N.take i).take lf by rw [Hyb.take_same (by have := HIL.out; omega)])
                            go_wp2_with (go_at_call 59; refine (CB.out _).mono ?_; rintro e w2 ⟨rfl, rfl⟩)
                            go_roundw
                            case rel => exact ⟨i + 1, by omega, by go_num, by rw [HQ1.out]; exact HO2, HZ2, X⟩
                            case measure => simp [intOf]; omega
                          · have h3 : ((x : Int) != 0) = true := by rw [bne_iff_ne]; omega
                            have h4 : ((x : Int) == 0) = false := by rw [beq_eq_false_iff_ne]; omega
                            have HE := hid (HBAD.out 1 (by decide) (by
                              rw [HST.out, if_neg]
                              intro h
                              have hm : x ∈ N.drop lf := List.mem_of_getElem? (i := i - lf) (by rw [List.getElem?_drop, show lf + (i - lf) = i by have := HIL.out; omega]; exact HXI.out)
                              have := List.all_eq_true.1 h x hm
                              simp at this; exact hx0 this))
                            clear hx0
                            go_wp2_with (go_at_call 59; refine (CB.out _).mono ?_; rintro e w2 ⟨rfl, rfl⟩)
                            go_returns
                            exact ⟨none, 0, by rw [HE.out]; rfl, fun h => by rw [HE.out] at h; simp [u64s] at h, X⟩
                      · obtain rfl : i = z := by omega
                        have HNT := hid (show N.take i = N from List.take_of_length_le (by rw [HNL.out]; exact Nat.le_refl _))
                        rw [HNT.out] at HO2
                        have HE := hid (HGOOD.out (N.take lf) (k + sz) (by
                          rw [HST.out, if_pos]
                          rw [List.all_eq_true]
                          intro y hy
                          obtain ⟨j, hj, rfl⟩ := List.getElem_of_mem hy
                          have h5 := HZZ.out (lf + j) (by omega) (by rw [List.length_drop, HNL.out] at hj; omega)
                          rw [← List.getElem?_drop, List.getElem?_eq_getElem hj] at h5
                          injection h5 with h5
                          simp [h5]))
                        rw [← HXE.out] at HE
                        have HTL := hid (show 1 ≤ (N.take lf).length ∧ (N.take lf).length ≤ lf by rw [List.length_take, HNL.out]; omega)
                        obtain ⟨A3, c3, rfl, _⟩ := Rd.owned HO2.out
                        go_wp2
                        go_roundw
                        case rel => exact ⟨XE, o ++ N.take lf, fn, rfl, HXES.out, HO2, hid (by rw [List.length_append]; have := HLF.out; have := HTL.out; omega), hid (by rw [List.length_append]; have := HFN.out; have := HTL.out; omega), HE, X⟩
                        case measure => have := HTL.out; simp only [sLen, List.length_append]; omega
      · have HE := hid (HBAD.out e he (by rw [Hyb.stp_bad hrd he]))
        have h3 : ((e : Int) != 0) = true := by rw [bne_iff_ne]; omega
        have h4 : ((e : Int) == 0) = false := by rw [beq_eq_false_iff_ne]; omega
        clear hrd he hlf1 hlf64 hlt hXs hsz
        go_wp2_with fail
        refine Calls.mono (CR _).out ?_
        rintro e w1 ⟨rfl, hx⟩
        have HX1 := hid (HX.out.then hx)
        clear hx
        go_wp2
        go_returns
        exact ⟨none, 0, by rw [HE.out]; rfl, fun h => by rw [HE.out] at h; simp [u64s] at h, HX1.out⟩
    · have hge : (mm : Int) ≤ (o.length : Int) := by omega
      have e2 := HI.out
      rw [Hyb.rdF_end wn mm f _ o (by omega)] at e2
      by_cases hs0 : XX.size = 0
      · have hn : XX.data.toList = [] := List.length_eq_zero_iff.1 (by rw [Array.length_toList]; exact hs0)
        rw [if_pos hn] at e2
        have HE := hid e2
        have hsI : (XX.size : Int) = 0 := by omega
        clear e2 HI hlt hn hsz
        go_wp2
        go_returns
        exact ⟨A2, c2, by rw [HE.out]; rfl, by rw [HE.out]; exact HRD.out, HX.out⟩
      · have hn : XX.data.toList ≠ [] := fun h => hs0 (by have := congrArg List.length h; rw [Array.length_toList] at this; exact this)
        rw [if_neg hn] at e2
        have HE := hid e2
        have hsI : (0 : Int) < (XX.size : Int) := by omega
        clear e2 HI hlt hn hs0 hsz
        go_wp2
        go_returns
        exact ⟨none, 0, by rw [HE.out]; rfl, fun h => by rw [HE.out] at h; simp [u64s] at h, HX.out⟩
end Go.Proofs.Ytdblegdbfdhepaa
