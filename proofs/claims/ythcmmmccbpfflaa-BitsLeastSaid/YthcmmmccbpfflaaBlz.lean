/- Bits: the laws, walked: Least. -/
import Derived.Test.YthcmmmccbpfflaaBlx
namespace Hy.Bits
open Go
theorem pk_less {l : List Nat} {k : Int} (h2 : l.length ≤ 64) (h3 : 0 ≤ k) (h4 : k < width l) (h5 : width l ≤ 64) : pk l k = ([], 8) := by
  unfold pk
  rw [if_neg (fun h => h ⟨h3, by omega⟩), if_neg (by omega), if_pos h4]
theorem width_take (l : List Nat) (i : Nat) (h : i < l.length) : width (l.take (i + 1)) = max (width (l.take i)) (width [l[i]]) := by
  rw [List.take_succ_eq_append_getElem h, width_app]
end Hy.Bits
namespace Go.Proofs.Ythcmmmccbpfflaa
open Go.RowKit Hy
set_option maxHeartbeats 2000000 in
theorem bitsLeast_walk (l : List Nat) (A : Option Addr) (n cap : Nat) (less : Int) (w : World) (hn : l.length = n) (hr : Rd w A (u64s l)) (hl : ∀ x ∈ l, x < 18446744073709551616) (hnl : n ≤ 9223372036854775806) (hcap : n ≤ cap) (hcm : cap ≤ 9223372036854775807)
    (hi1 : -9223372036854775808 ≤ less) (hi2 : less ≤ 9223372036854775807) :
    Calls Try.prog 14 #[.slice A n cap, .int .i64 less] w fun e w' => e = .returned (.bool true) ∧ Ext w w' := by
  have H1 := fun wx : World => fun hx : Ext w wx => hid (width_any l A n cap wx hn (hr.keep hx) hl hnl)
  have hw64 := Bits.width_le64 l hl
  have hwI : (Bits.width l : Int) ≤ 64 := by omega
  by_cases h64 : n ≤ 64
  · have hlt := (Bits.width_le_iff l (Bits.width l) hl hw64).1 (Nat.le_refl _)
    have hpk := Bits.pk_of hw64 (by rw [hn]; exact h64) hlt
    have hplen := Bits.packed_len l (Bits.width l)
    have hpl2 := Bits.pk_less (l := l) (k := less) (by rw [hn]; exact h64)
    obtain ⟨qf, ef, hpf⟩ : ∃ q e, Bits.pk l less = (q, e) := ⟨_, _, rfl⟩
    have H2 := fun wx : World => fun hx : Ext w wx => hid (pack_of l (Bits.width l) _ _ n cap A wx hpk hn (hr.keep hx) hl hnl)
    have H3 := fun wx : World => fun hx : Ext w wx => hid (pack_of l less _ _ n cap A wx hpf hn (hr.keep hx) hl hnl)
    have HW := hid (fun (wx : World) (hx : Ext w wx) (b o i c : Nat) (hA : A = some ⟨b, o, none⟩) (hi : i < l.length) => width_any [l[i]] (some ⟨b, o + i, none⟩) 1 c wx rfl (fun _ => by
        obtain ⟨b', o', e1, hb, hc⟩ := hr.nums i hi
        rw [hA] at e1
        simp only [Option.some.injEq, Addr.mk.injEq, and_true] at e1
        obtain ⟨rfl, rfl⟩ := e1
        refine ⟨b, o + i, rfl, Nat.lt_of_lt_of_le hb hx.size, fun j u hu => ?_⟩
        match j, hu with
        | 0, hu => simp [u64s] at hu; subst hu; exact (hx.cell (p := ⟨b, o + i, none⟩) hb).trans (hc i hi)) (fun x hx => by simp at hx; subst hx; exact hl _ (List.getElem_mem _)) (by decide))
    have HTK := hid (Bits.width_take l)
    have hA : 0 < n → ∃ b o, A = some ⟨b, o, none⟩ := fun h => by
      obtain ⟨b, o, e, _⟩ := hr (by rw [u64s_len, hn]; exact h)
      exact ⟨b, o, e⟩
    have HN := hid hn
    have HAA := hid hA
    have hww : ∀ (i : Nat) (hi : i < l.length), Bits.width [l[i]] ≤ 64 := fun i hi => Bits.width_le64 _ (fun x hx => by simp at hx; subst hx; exact hl _ (List.getElem_mem _))
    have HWW := hid hww
    obtain ⟨S, hS⟩ : ∃ S : ByteArray, S = ⟨(Bits.packed l (Bits.width l)).toArray⟩ := ⟨_, rfl⟩
    have hSz : S.size = (n * Bits.width l + 7) / 8 := by rw [hS, str_size, hplen, hn]; rfl
    rw [← hS] at H2
    have hnw : n * Bits.width l ≤ 64 * 64 := Nat.mul_le_mul h64 hw64
    have hmul : (n : Int) * (Bits.width l : Int) = ((n * Bits.width l : Nat) : Int) := by simp
    have HFE := hid (fun (h1 : 0 ≤ less) (h2 : less < Bits.width l) => congrArg Prod.snd (hpf.symm.trans (hpl2 h1 h2 hw64)))
    have HWF := hid (show l.take n = l from List.take_of_length_le (by rw [hn]; exact Nat.le_refl _))
    generalize n * Bits.width l = e at *
    have HWL := hid (Eq.refl (Bits.width l))
    obtain ⟨q, hq⟩ : ∃ q, q = Bits.width l := ⟨_, rfl⟩
    rw [← hq] at H1 H2 hmul hwI
    simp only [← hq] at HFE
    have HQ := hid hq
    have hsI1 : (e : Int) ≤ 8 * (S.size : Int) := by omega
    have hsI2 : 8 * (S.size : Int) < (e : Int) + 8 := by omega
    have heI : (e : Int) ≤ 4096 := by omega
    have hnI : (n : Int) ≤ 64 := by omega
    clear hr hl hn hpk hplen hpl2 hpf hlt hw64 hA hS hSz hnw HWL hq hww hnl
    go_enter Try.func14, Try.ntmps14
    go_wp2_with fail
    refine (H1 _ (ext_refl _)).out.mono ?_
    rintro e' w1 ⟨rfl, rfl⟩
    go_wp2_with fail
    refine (bitsBegun_any _).mono ?_
    rintro e' w2 ⟨rfl, b2⟩
    go_wp2_with fail
    refine (H2 _ b2).out.mono ?_
    rintro e' w3 ⟨rfl, b3⟩
    go_wp2_with fail
    refine (H3 _ (b2.then b3)).out.mono ?_
    rintro e' w4 ⟨rfl, b4⟩
    have HB := hid ((b2.then b3).then b4)
    clear b2 b3 b4
    go_wp2_with fail
    go_loop [10, 11, 12] (fun a c _ => ∃ i : Nat, i ≤ n ∧ c = .int .i64 i ∧ a = .int .i64 (Bits.width (l.take i))) (fun _ c _ => n - (intOf c).toNat)
    case atStart => exact ⟨0, Nat.zero_le _, rfl, rfl⟩
    case round =>
      obtain ⟨i, hi, rfl, rfl⟩ := hrel
      by_cases hlt : i < n
      · obtain ⟨b, o, rfl⟩ := HAA.out (by omega)
        have hil : i < l.length := by rw [HN.out]; exact hlt
        have HC := fun (wx : World) (hx : Ext w wx) (c : Nat) => hid (HW.out wx hx b o i c rfl hil)
        have HT := hid (HTK.out i hil)
        have hx64 := HWW.out i hil
        generalize Bits.width [l[i]] = x at *
        generalize Bits.width (l.take i) = y at *
        have hxI : (x : Int) ≤ 64 := by omega
        have hicI : (i : Int) + 1 ≤ (cap : Int) := by omega
        clear hil hx64 HW
        by_cases hxy : y < x
        · have HM := hid (show max y x = x by omega)
          have hxyI : (y : Int) < (x : Int) := by omega
          clear hxy
          go_wp2_with (go_at_call 30; refine (HC _ HB.out _).out.mono ?_; rintro e' w5 ⟨rfl, rfl⟩)
          go_round
          case rel => exact ⟨i + 1, by omega, by go_num, by rw [HT.out, HM.out]⟩
          case measure => simp [intOf]; omega
        · have HM := hid (show max y x = y by omega)
          have hxyI : ¬ (y : Int) < (x : Int) := by omega
          clear hxy
          go_wp2_with (go_at_call 30; refine (HC _ HB.out _).out.mono ?_; rintro e' w5 ⟨rfl, rfl⟩)
          go_round
          case rel => exact ⟨i + 1, by omega, by go_num, by rw [HT.out, HM.out]⟩
          case measure => simp [intOf]; omega
      · obtain rfl : i = n := by omega
        rw [HWF.out, ← HQ.out]
        by_cases h1 : less < 0
        · go_wp2_with fail
          go_returns
          exact ⟨rfl, HB.out⟩
        · by_cases h2 : (q : Int) ≤ less
          · go_wp2_with fail
            go_returns
            exact ⟨rfl, HB.out⟩
          · obtain rfl := HFE.out (by omega) (by omega)
            go_wp2_with fail
            go_returns
            exact ⟨rfl, HB.out⟩
  · have hnI : (64 : Int) < (n : Int) := by omega
    generalize Bits.width l = q at *
    clear hr hl hn h64
    go_enter Try.func14, Try.ntmps14
    go_wp2_with fail
    refine (H1 _ (ext_refl _)).out.mono ?_
    rintro e' w1 ⟨rfl, rfl⟩
    go_wp2_with fail
    refine (bitsBegun_any _).mono ?_
    rintro e' w2 ⟨rfl, b2⟩
    go_wp2_with fail
    go_returns
    exact ⟨rfl, b2⟩
end Go.Proofs.Ythcmmmccbpfflaa
