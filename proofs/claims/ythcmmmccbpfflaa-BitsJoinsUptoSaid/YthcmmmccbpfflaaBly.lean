/- Bits: the laws, walked: Joins. -/
import Derived.Test.YthcmmmccbpfflaaBlx
namespace Hy
open Go
theorem Rd.nil_of {w : World} {A : Option Addr} {cs : List Value} {n : Nat} (h : Rd w A cs) (hl : cs.length = n) (hA : A = none) : n = 0 := by
  rcases Nat.eq_zero_or_pos n with h0 | h0
  · exact h0
  · obtain ⟨b, o, e, _⟩ := h (by omega)
    rw [hA] at e; cases e
end Hy
namespace Go.Proofs.Ythcmmmccbpfflaa
open Go.RowKit Hy
theorem pack_ex (l : List Nat) (A : Option Addr) (n cap : Nat) (wd : Int) (w : World) (q : List UInt8) (er : Nat) (h : Bits.pk l wd = (q, er)) (hn : l.length = n) (hr : Rd w A (u64s l)) (hl : ∀ x ∈ l, x < 18446744073709551616) (hnl : n ≤ 9223372036854775806) :
    Calls Try.prog 27 #[.slice A n cap, .int .i64 wd] w fun e w' => e = .returned (.tuple #[.string ⟨q.toArray⟩, .int .i64 er]) ∧ Ext w w' := pack_of l wd q er n cap A w h hn hr hl hnl
set_option maxHeartbeats 2000000 in
theorem bitsJoins_walk (a b : List Nat) (A B : Option Addr) (n m ca cb : Nat) (wd : Int) (w : World) (hn : a.length = n) (hm : b.length = m) (ha : Rd w A (u64s a)) (hb : Rd w B (u64s b)) (hla : ∀ x ∈ a, x < 18446744073709551616) (hlb : ∀ x ∈ b, x < 18446744073709551616)
    (hnl : n ≤ 10000000) (hml : m ≤ 10000000) :
    Calls Try.prog 15 #[.slice A n ca, .slice B m cb, .int .i64 wd] w fun e w' => e = .returned (.bool true) ∧ Ext w w' := by
  obtain ⟨qa, ea, hpa⟩ : ∃ q e, Bits.pk a wd = (q, e) := ⟨_, _, rfl⟩
  obtain ⟨qb, eb, hpb⟩ : ∃ q e, Bits.pk b wd = (q, e) := ⟨_, _, rfl⟩
  obtain ⟨qc, ec, hpc⟩ : ∃ q e, Bits.pk (a ++ b) wd = (q, e) := ⟨_, _, rfl⟩
  have hlc : ∀ x ∈ a ++ b, x < 18446744073709551616 := fun x hx => (List.mem_append.1 hx).elim (hla x) (hlb x)
  have H1 := fun wx : World => fun hx : Ext w wx => hid (pack_ex a A n ca wd wx qa ea hpa hn (ha.keep hx) hla (by omega))
  have H2 := fun wx : World => fun hx : Ext w wx => hid (pack_ex b B m cb wd wx qb eb hpb hm (hb.keep hx) hlb (by omega))
  have H3 := hid (fun (wx : World) (C : Option Addr) (cc : Nat) (h : Rd wx C (u64s (a ++ b))) => pack_ex (a ++ b) C (n + m) cc wd wx qc ec hpc (by rw [List.length_append, hn, hm]) h hlc (by omega))
  have SA := hid (fun (wx : World) (hx : Ext w wx) => Src.rd (P := Try.prog) (size := 1) (w := wx) Try.underlying32 A n ca (u64s a) (by rw [u64s_len, hn, Nat.mul_one]) (ha.keep hx) (u64s_one _) (fun h => ha.nil_of (by rw [u64s_len, hn]) h))
  have SB := hid (fun (wx : World) (hx : Ext w wx) => Src.rd (P := Try.prog) (size := 1) (w := wx) Try.underlying32 B m cb (u64s b) (by rw [u64s_len, hm, Nat.mul_one]) (hb.keep hx) (u64s_one _) (fun h => hb.nil_of (by rw [u64s_len, hm]) h))
  have HF : Hid (ea = 0 → eb = 0 → ec = 0 → 0 ≤ wd ∧ wd ≤ 64 ∧ n ≤ 64 ∧ qa.length ≤ 600 ∧ qb.length ≤ 600 ∧ ((n : Int) * wd % 8 = 0 → qc = qa ++ qb)) := hid (fun h1 h2 h3 => by
    obtain ⟨a1, a2, a3, a4, a5⟩ := Bits.pk_ok (l := a) (w := wd) (by rw [hpa]; exact h1) hla
    obtain ⟨_, _, b3, _, b5⟩ := Bits.pk_ok (l := b) (w := wd) (by rw [hpb]; exact h2) hlb
    obtain ⟨_, _, _, _, c5⟩ := Bits.pk_ok (l := a ++ b) (w := wd) (by rw [hpc]; exact h3) hlc
    have l1 : qa.length ≤ 600 := by
      have := congrArg (fun x => x.1.length) (hpa.symm.trans a5)
      simp only [Bits.packed_len] at this
      have h := Nat.mul_le_mul (show a.length ≤ 64 from a3) (show wd.toNat ≤ 64 by omega)
      rw [this]; unfold Bits.size; omega
    have l2 : qb.length ≤ 600 := by
      have := congrArg (fun x => x.1.length) (hpb.symm.trans b5)
      simp only [Bits.packed_len] at this
      have h := Nat.mul_le_mul (show b.length ≤ 64 from b3) (show wd.toNat ≤ 64 by omega)
      rw [this]; unfold Bits.size; omega
    refine ⟨a1, a2, by omega, l1, l2, fun h8 => ?_⟩
    obtain ⟨k, rfl⟩ := Int.eq_ofNat_of_zero_le a1
    rw [Int.toNat_natCast] at a4 a5 b5 c5
    rw [hpa] at a5; rw [hpb] at b5; rw [hpc] at c5
    have e1 := congrArg Prod.fst a5
    have e2 := congrArg Prod.fst b5
    have e3 := congrArg Prod.fst c5
    simp only at e1 e2 e3
    rw [e1, e2, e3]
    refine Bits.packed_app a b k a4 ?_
    rw [hn]
    have : ((n * k : Nat) : Int) % 8 = 0 := by rw [Int.natCast_mul]; exact h8
    omega)
  clear hpa hpb hpc hla hlb hlc ha hb hn hm
  have hnI : (n : Int) ≤ 10000000 := by omega
  have hmI : (m : Int) ≤ 10000000 := by omega
  obtain ⟨QA, hQA⟩ : ∃ S : ByteArray, S = ⟨qa.toArray⟩ := ⟨_, rfl⟩
  obtain ⟨QB, hQB⟩ : ∃ S : ByteArray, S = ⟨qb.toArray⟩ := ⟨_, rfl⟩
  obtain ⟨QC, hQC⟩ : ∃ S : ByteArray, S = ⟨qc.toArray⟩ := ⟨_, rfl⟩
  rw [← hQA] at H1
  rw [← hQB] at H2
  rw [← hQC] at H3
  have HQ := hid (show qc = qa ++ qb → QC = QA ++ QB from fun h => by rw [hQA, hQB, hQC, h, str_app])
  have HZA := hid (show QA.size = qa.length by rw [hQA, str_size])
  have HZB := hid (show QB.size = qb.length by rw [hQB, str_size])
  clear hQA hQB hQC
  go_enter Try.func15, Try.ntmps15
  go_wp2_with fail
  refine (H1 _ (ext_refl _)).out.mono ?_
  rintro e w1 ⟨rfl, b1⟩
  go_wp2_with fail
  refine (H2 _ b1).out.mono ?_
  rintro e w2 ⟨rfl, b2⟩
  have B2 := b1.then b2
  have HB2 := hid B2
  clear b1 b2 B2
  go_wp2_with (first
    | (at_builtin; refine wpList_app rfl (.tmp 26) (.tmp 27) rowU64 rfl _ 0 [] rfl (own_new (base := w.heap.size) rfl rfl HB2.out.size (by decide)) _ n (u64s a) rfl (SA.out _ (HB2.out.new _)) (by unfold maxLen; omega) (by omega) (by have := HB2.out.size; simp; omega) ?_; intro v3 w3 hown3 hg3 ha3 hb3; simp only [Nat.zero_add, List.nil_append] at hown3; have HO3 := hid hown3; have HB3 := hid ((HB2.out.new _).trans hb3); clear hown3 hg3 ha3 hb3)
    | (at_builtin; refine wpList_app rfl (.tmp 28) (.tmp 29) rowU64 rfl _ n (u64s a) rfl HO3.out _ m (u64s b) rfl (SB.out _ HB3.out) (by unfold maxLen; omega) (by omega) (by have := HB3.out.size; omega) ?_; intro v4 w4 hown4 hg4 ha4 hb4; obtain ⟨A4, c4, rfl, hr4, _⟩ := Rd.owned hown4; have HR4 := hid hr4; have HB4 := hid (HB3.out.trans hb4); clear hown4 hg4 ha4 hb4 hr4))
  refine (H3.out _ _ _ (by rw [u64s_app]; exact HR4.out)).mono ?_
  rintro e w5 ⟨rfl, b5⟩
  have HB5 : Hid (Ext w w5) := hid (Ext.then HB4.out b5)
  clear b5
  go_wp2_with fail
  refine (bitsBegun_any _).mono ?_
  rintro e w6 ⟨rfl, b6⟩
  have HB6 := hid (HB5.out.then b6)
  clear b6
  by_cases h1 : ea = 0
  · subst h1
    by_cases h2 : eb = 0
    · subst h2
      by_cases h3 : ec = 0
      · subst h3
        obtain ⟨d1, d2, d3, d5, d6, d4⟩ := HF.out rfl rfl rfl
        have hsa : QA.size ≤ 600 := by rw [HZA.out]; exact d5
        have hsb : QB.size ≤ 600 := by rw [HZB.out]; exact d6
        clear d5 d6
        obtain ⟨k, rfl⟩ := Int.eq_ofNat_of_zero_le d1
        have hmul : (n : Int) * (k : Int) = ((n * k : Nat) : Int) := by simp
        have hnk : n * k ≤ 64 * 64 := Nat.mul_le_mul d3 (by omega)
        rw [hmul] at d4
        generalize n * k = e at *
        have heI : (e : Int) ≤ 4096 := by omega
        have HD4 := hid d4
        clear hnk d4 d3
        by_cases h8 : (e : Int) % 8 = 0
        · have HQ2 := hid (HQ.out (HD4.out h8))
          have h9 : ((e : Int) % 8 != 0) = false := by rw [bne_eq_false_iff_eq]; exact h8
          have h10 : ((e : Int) % 8 == 0) = true := by rw [beq_iff_eq]; exact h8
          clear h8
          obtain rfl := HQ2.out
          go_wp2_with fail
          go_returns
          exact ⟨rfl, HB6.out⟩
        · have h9 : ((e : Int) % 8 != 0) = true := by rw [bne_iff_ne]; exact h8
          have h10 : ((e : Int) % 8 == 0) = false := by rw [beq_eq_false_iff_ne]; exact h8
          clear h8
          go_wp2_with fail
          go_returns
          exact ⟨rfl, HB6.out⟩
      · have h4 : ((ec : Int) != 0) = true := by rw [bne_iff_ne]; omega
        have h5 : ((ec : Int) == 0) = false := by rw [beq_eq_false_iff_ne]; omega
        clear h3
        go_wp2_with fail
        go_returns
        exact ⟨rfl, HB6.out⟩
    · have h4 : ((eb : Int) != 0) = true := by rw [bne_iff_ne]; omega
      have h5 : ((eb : Int) == 0) = false := by rw [beq_eq_false_iff_ne]; omega
      clear h2
      go_wp2_with fail
      go_returns
      exact ⟨rfl, HB6.out⟩
  · have h4 : ((ea : Int) != 0) = true := by rw [bne_iff_ne]; omega
    have h5 : ((ea : Int) == 0) = false := by rw [beq_eq_false_iff_ne]; omega
    clear h1
    go_wp2_with fail
    go_returns
    exact ⟨rfl, HB6.out⟩
end Go.Proofs.Ythcmmmccbpfflaa
