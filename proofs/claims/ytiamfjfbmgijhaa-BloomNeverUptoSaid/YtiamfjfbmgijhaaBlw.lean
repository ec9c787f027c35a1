/- Bloom: the walks of hashes. -/
import Derived.Test.YtiamfjfbmgijhaaRows
import Derived.Test.YtiamfjfbmgijhaaBase
import Derived.Test.YtiamfjfbmgijhaaBll
namespace Go.Proofs.Ytiamfjfbmgijhaa
open Go.RowKit Hy

theorem oneByte_any (k : Int) (w : World) :
    Calls Try.prog 40 #[.int .i64 k] w fun e w' => e = .returned (.string ⟨#[Bloom.kb k]⟩) ∧ Ext w w' := by
  have h0 : 0 ≤ k % 256 := by omega
  have h1 : k % 256 < 256 := by omega
  have hcv := run_str1 (P := Try.prog) Try.underlying61 Try.underlying5 Try.underlying9 (k % 256).toNat (by omega)
  have e1 : ((k % 256).toNat : Int) = k % 256 := by omega
  rw [e1] at hcv
  have e2 : UInt8.ofNat (k % 256).toNat = Bloom.kb k := rfl
  rw [e2] at hcv
  clear e1 e2
  go_enter Try.func40, Try.ntmps40
  go_wp2
  go_returns
  exact ⟨rfl, (ext_refl _).new _⟩

set_option maxHeartbeats 400000 in
theorem bigBytes_any (n k : Nat) (w : World) (hn : n < 18446744073709551616) (hk : k ≤ 100) :
    Calls Try.prog 41 #[.int .u64 n, .int .i64 k] w fun e w' => e = .returned (.string ⟨(Bloom.be n k).toArray⟩) ∧ Ext w w' := by
  go_enter Try.func41, Try.ntmps41
  go_wp2
  go_loopw [5, 0, 6] (fun a b c wr => ∃ (i m : Nat) (s : ByteArray), i ≤ k ∧ c = .int .i64 i ∧ b = .int .u64 m ∧ a = .string s ∧ m < 18446744073709551616 ∧ s.size ≤ 100 ∧ Hid (m = n / 256 ^ i ∧ s = ⟨(Bloom.be n i).toArray⟩) ∧ Ext w wr)
    (fun _ _ c _ => k - (intOf c).toNat)
  case atStart => exact ⟨0, n, _, Nat.zero_le _, rfl, rfl, rfl, hn, by decide, ⟨by simp, rfl⟩, ext_refl _⟩
  case round =>
    obtain ⟨i, m, s, hi, rfl, rfl, rfl, hm, hs, HH, B⟩ := hrel
    by_cases hlt : i < k
    · go_wp2_with (go_at_call 40; refine (oneByte_any _ _).mono ?_; rintro e w2 ⟨rfl, b2⟩)
      go_roundw
      case rel =>
        obtain ⟨h1, h2⟩ := HH.out
        have hb : Bloom.kb ((m : Int) % 256) = UInt8.ofNat m := by
          unfold Bloom.kb; apply UInt8.toNat_inj.1; simp; omega
        have hl : s.size = i := by rw [h2]; exact Bloom.be_length n i
        refine ⟨i + 1, m / 256, _, by omega, by go_num, by go_num, rfl, by omega, ?_, ⟨?_, ?_⟩, B.then b2⟩
        · rw [ByteArray.size_append, hl]; show 1 + i ≤ 100; omega
        · rw [h1, Nat.pow_succ, Nat.div_div_eq_div_mul]
        · rw [hb, Bloom.be_cons, h2, h1]
          apply ByteArray.ext; simp
      case measure => simp [intOf]; omega
    · have e : i = k := by omega
      subst e
      go_wp2
      go_returns
      refine ⟨?_, B⟩
      rw [HH.out.2]; rfl

theorem xor_fact (h : Nat) (u : UInt8) (hh : h < 18446744073709551616) : bits BinOp.xor IntKind.u64 (h : Int) (u.toNat : Int) = ((h ^^^ u.toNat : Nat) : Int) :=
  bits_xor_u64_nat _ _ hh (by have := u.toNat_lt; omega)
set_option maxHeartbeats 400000 in
theorem hash8_any (h : Nat) (l : List UInt8) (n : Nat) (A : Option Addr) (c : Nat) (w : World) (hh : h < 18446744073709551616) (hn : l.length = n) (hl : n ≤ 140737488351232) (hr : Rd w A (l.map fun u => Value.int .u8 u.toNat)) :
    Calls Try.prog 38 #[.int .u64 h, .slice A n c] w fun e w' => e = .returned (.int .u64 (Bloom.fnv h l)) ∧ w = w' := by
  subst hn
  have HR : Hid (Rd w A (l.map fun u => Value.int .u8 u.toNat)) := hr
  clear hr
  go_enter Try.func38, Try.ntmps38
  go_wp2
  go_loop [0, 9] (fun a b => ∃ (k x : Nat), k ≤ l.length ∧ b = .int .i64 k ∧ a = .int .u64 x ∧ x < 18446744073709551616 ∧ Hid (x = Bloom.fnv h (l.take k)))
    (fun _ b => l.length - (intOf b).toNat)
  case atStart => exact ⟨0, h, Nat.zero_le _, rfl, rfl, hh, rfl⟩
  case round =>
    obtain ⟨k, x, hk, rfl, rfl, hx, HX⟩ := hrel
    by_cases hlt : k < l.length
    · obtain ⟨b, o, rfl, hb, hc⟩ := HR.out (by simpa using Nat.lt_of_le_of_lt (Nat.zero_le _) hlt)
      have hcell : w.cell? ⟨b, o + k, none⟩ = some (.int .u8 l[k].toNat) := hc k _ (by simp [hlt])
      clear hc hb HR
      have HS : Hid (Bloom.fnv h (l.take (k + 1)) = Bloom.step x l[k]) := by
        rw [HX.out, List.take_succ_eq_append_getElem hlt, Bloom.fnv_snoc]; rfl
      generalize hu : l[k] = u at *
      clear hu
      have hu := u.toNat_lt
      have hb := xor_fact x u hx
      go_wp2
      go_round
      case rel => exact ⟨k + 1, Bloom.step x u, by omega, by go_num, by rw [Bloom.step_int], Bloom.step_lt _ _, HS.out.symm⟩
      case measure => simp [intOf]; omega
    · go_wp2
      go_returns
      refine ⟨ret_int ?_, rfl⟩
      rw [HX.out, List.take_of_length_le (by omega)]

set_option maxHeartbeats 400000 in
theorem hash64_one (h : Nat) (x : Int) (g : Nat) (w : World) (hh : h < 18446744073709551616) (hx0 : 0 ≤ x) (hx : x < 18446744073709551616) (hc : w.cell? ⟨g, 0, none⟩ = some (.int .u64 x)) :
    Calls Try.prog 39 #[.int .u64 h, .slice (some ⟨g, 0, none⟩) 1 1] w fun e w' => e = .returned (.int .u64 (Bloom.step h (UInt8.ofNat x.toNat))) ∧ w = w' := by
  have hb := xor_fact h (UInt8.ofNat x.toNat) hh
  rw [show (((UInt8.ofNat x.toNat).toNat : Nat) : Int) = x % 256 from by simp; omega] at hb
  have HS := hid (Bloom.step_int h (UInt8.ofNat x.toNat))
  generalize Bloom.step h (UInt8.ofNat x.toNat) = r at *
  generalize h ^^^ (UInt8.ofNat x.toNat).toNat = y at *
  go_enter Try.func39, Try.ntmps39
  go_wp2
  refine wp_loop_rounds 2 ?_
  repeat any_goals (rw [rounds_succ]; go_wp2)
  go_returns
  exact ⟨ret_int HS.out, rfl⟩

theorem hash8_one (h : Nat) (x : Nat) (u : UInt8) (g : Nat) (w : World) (hh : h < 18446744073709551616) (hc : w.cell? ⟨g, 0, none⟩ = some (.int .u8 x)) (hu : x = u.toNat) :
    Calls Try.prog 38 #[.int .u64 h, .slice (some ⟨g, 0, none⟩) 1 1] w fun e w' => e = .returned (.int .u64 (Bloom.step h u)) ∧ w = w' := by
  subst hu
  have := hash8_any h [u] 1 (some ⟨g, 0, none⟩) 1 w hh rfl (by simp) (rd_one hc)
  rw [Bloom.fnv_one] at this
  exact this
theorem hash8_start (x : Nat) (u : UInt8) (g : Nat) (w : World) (hc : w.cell? ⟨g, 0, none⟩ = some (.int .u8 x)) (hu : x = u.toNat) :
    Calls Try.prog 38 #[.int .u64 14695981039346656037, .slice (some ⟨g, 0, none⟩) 1 1] w fun e w' => e = .returned (.int .u64 (Bloom.step Bloom.start u)) ∧ w = w' := by
  have := hash8_one Bloom.start x u g w Bloom.start_lt hc hu
  rw [Bloom.start_int] at this
  exact this

set_option maxHeartbeats 1000000 in
theorem hash_any (k : Int) (n : Nat) (s : ByteArray) (w : World) (h3 : n < 18446744073709551616) (h4 : s.size ≤ 140737488351232) :
    Calls Try.prog 25 #[.agg #[.int .i64 k, .int .u64 n, .string s]] w fun e w' => e = .returned (.int .u64 (Bloom.hash ⟨k, n, s⟩)) ∧ Ext w w' := by
  obtain ⟨x, hx⟩ : ∃ x : Nat, (x : Int) = k % 256 := ⟨(k % 256).toNat, by omega⟩
  have HK : Hid (x = (Bloom.kb k).toNat) := by
    unfold Hid Bloom.kb; simp; omega
  have hx' := hx.symm
  clear hx
  have hlt : Bloom.step Bloom.start (Bloom.kb k) < 18446744073709551616 := Bloom.step_lt _ _
  have HE : Hid (Bloom.fnv Bloom.start (Bloom.bytes ⟨k, n, s⟩) = Bloom.fnv (Bloom.fnv (Bloom.step Bloom.start (Bloom.kb k)) (Bloom.be n 8)) s.data.toList) := by
    unfold Bloom.bytes; rw [Bloom.fnv_cons, Bloom.fnv_append]; rfl
  have C1 := hid (fun g w hc => hash8_start x (Bloom.kb k) g w hc HK.out)
  generalize Bloom.step Bloom.start (Bloom.kb k) = H at *
  go_enter Try.func25, Try.ntmps25
  go_wp2_with fail
  refine (C1.out _ _ ?_).mono ?_
  · simp [go_sem]
  rintro e w1 ⟨rfl, rfl⟩
  go_wp2
  refine wp_loop_rounds 9 ?_
  rw [rounds_succ]
  go_wp2_with fail
  refine (hash64_one _ ((n : Int) / 72057594037927936) _ _ hlt ?_ ?_ ?_).mono ?_
  · omega
  · omega
  · simp [go_sem]
  rintro e w1 ⟨rfl, rfl⟩
  have hlt1 := Bloom.step_lt H (UInt8.ofNat (((n : Int) / 72057594037927936)).toNat)
  generalize hH1 : Bloom.step H (UInt8.ofNat (((n : Int) / 72057594037927936)).toNat) = H1 at *
  replace hH1 := hid hH1
  clear hlt
  go_wp2_with fail
  rw [rounds_succ]
  go_wp2_with fail
  refine (hash64_one _ ((n : Int) / 281474976710656) _ _ hlt1 ?_ ?_ ?_).mono ?_
  · omega
  · omega
  · simp [go_sem]
  rintro e w1 ⟨rfl, rfl⟩
  have hlt2 := Bloom.step_lt H1 (UInt8.ofNat (((n : Int) / 281474976710656)).toNat)
  generalize hH2 : Bloom.step H1 (UInt8.ofNat (((n : Int) / 281474976710656)).toNat) = H2 at *
  replace hH2 := hid hH2
  clear hlt1
  go_wp2_with fail
  rw [rounds_succ]
  go_wp2_with fail
  refine (hash64_one _ ((n : Int) / 1099511627776) _ _ hlt2 ?_ ?_ ?_).mono ?_
  · omega
  · omega
  · simp [go_sem]
  rintro e w1 ⟨rfl, rfl⟩
  have hlt3 := Bloom.step_lt H2 (UInt8.ofNat (((n : Int) / 1099511627776)).toNat)
  generalize hH3 : Bloom.step H2 (UInt8.ofNat (((n : Int) / 1099511627776)).toNat) = H3 at *
  replace hH3 := hid hH3
  clear hlt2
  go_wp2_with fail
  rw [rounds_succ]
  go_wp2_with fail
  refine (hash64_one _ ((n : Int) / 4294967296) _ _ hlt3 ?_ ?_ ?_).mono ?_
  · omega
  · omega
  · simp [go_sem]
  rintro e w1 ⟨rfl, rfl⟩
  have hlt4 := Bloom.step_lt H3 (UInt8.ofNat (((n : Int) / 4294967296)).toNat)
  generalize hH4 : Bloom.step H3 (UInt8.ofNat (((n : Int) / 4294967296)).toNat) = H4 at *
  replace hH4 := hid hH4
  clear hlt3
  go_wp2_with fail
  rw [rounds_succ]
  go_wp2_with fail
  refine (hash64_one _ ((n : Int) / 16777216) _ _ hlt4 ?_ ?_ ?_).mono ?_
  · omega
  · omega
  · simp [go_sem]
  rintro e w1 ⟨rfl, rfl⟩
  have hlt5 := Bloom.step_lt H4 (UInt8.ofNat (((n : Int) / 16777216)).toNat)
  generalize hH5 : Bloom.step H4 (UInt8.ofNat (((n : Int) / 16777216)).toNat) = H5 at *
  replace hH5 := hid hH5
  clear hlt4
  go_wp2_with fail
  rw [rounds_succ]
  go_wp2_with fail
  refine (hash64_one _ ((n : Int) / 65536) _ _ hlt5 ?_ ?_ ?_).mono ?_
  · omega
  · omega
  · simp [go_sem]
  rintro e w1 ⟨rfl, rfl⟩
  have hlt6 := Bloom.step_lt H5 (UInt8.ofNat (((n : Int) / 65536)).toNat)
  generalize hH6 : Bloom.step H5 (UInt8.ofNat (((n : Int) / 65536)).toNat) = H6 at *
  replace hH6 := hid hH6
  clear hlt5
  go_wp2_with fail
  rw [rounds_succ]
  go_wp2_with fail
  refine (hash64_one _ ((n : Int) / 256) _ _ hlt6 ?_ ?_ ?_).mono ?_
  · omega
  · omega
  · simp [go_sem]
  rintro e w1 ⟨rfl, rfl⟩
  have hlt7 := Bloom.step_lt H6 (UInt8.ofNat (((n : Int) / 256)).toNat)
  generalize hH7 : Bloom.step H6 (UInt8.ofNat (((n : Int) / 256)).toNat) = H7 at *
  replace hH7 := hid hH7
  clear hlt6
  go_wp2_with fail
  rw [rounds_succ]
  go_wp2_with fail
  refine (hash64_one _ (n : Int) _ _ hlt7 ?_ ?_ ?_).mono ?_
  · omega
  · omega
  · simp [go_sem]
  rintro e w1 ⟨rfl, rfl⟩
  have hlt8 := Bloom.step_lt H7 (UInt8.ofNat ((n : Int)).toNat)
  generalize hH8 : Bloom.step H7 (UInt8.ofNat ((n : Int)).toNat) = H8 at *
  replace hH8 := hid hH8
  clear hlt7
  go_wp2_with fail
  rw [rounds_succ]
  go_upto_region 6 with fail
  refine wp_gen (fun w' => Ext w w' ∧ w'.cell? ⟨w.heap.size, 2, none⟩ = some (.string s)) ⟨?_, ?_⟩ ?_
  · exact ((((((((((ext_refl _).new _).new _).new _).new _).new _).new _).new _).new _).new _).new _
  · simp [go_sem]
  rintro wz ⟨B, hcz⟩
  have kc := fun W : World => run_bytes_of_string (P := Try.prog) W 9 61 5 s Try.underlying9 Try.underlying61 Try.underlying5
  go_wp2_with fail
  refine (hash8_any H8 s.data.toList s.size _ _ _ hlt8 (by simp) h4 ?_).mono ?_
  · exact rd_bytes (w := wz.drew) rfl
  rintro e w1 ⟨rfl, rfl⟩
  go_wp2
  go_returns
  refine ⟨ret_int ?_, ?_⟩
  · unfold Bloom.hash
    rw [HE.out, Bloom.fnv8]
    have g1 := hH1.out; have g2 := hH2.out; have g3 := hH3.out; have g4 := hH4.out
    have g5 := hH5.out; have g6 := hH6.out; have g7 := hH7.out; have g8 := hH8.out
    clear kc hcz C1 HE
    subst g8 g7 g6 g5 g4 g3 g2 g1
    rfl
  · exact (B.draw).new _
end Go.Proofs.Ytiamfjfbmgijhaa
