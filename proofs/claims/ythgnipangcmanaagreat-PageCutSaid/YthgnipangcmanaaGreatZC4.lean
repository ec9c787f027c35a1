/- Texts of this claim, put together: walks and plain laws. -/
import Derived.Test.YthgnipangcmanaaGreatZG1
import Derived.Test.YthgnipangcmanaaGreatZC2
import Derived.Test.YthgnipangcmanaaGreatRows
import Derived.Test.YthgnipangcmanaaGreatZC3
import Derived.Test.YthgnipangcmanaaGreatZX1
import Derived.Test.YthgnipangcmanaaGreatZV1
import Derived.Test.YthgnipangcmanaaGreatZD1
import Derived.Test.YthgnipangcmanaaGreatZF1
import Derived.Test.YthgnipangcmanaaGreatZB1
section
namespace Go.Proofs.YthgnipangcmanaaGreat
open Go.RowKit Hy
theorem ad_and16 (c : Int) (h0 : 0 ≤ c) (h1 : c < 4294967296) : bits BinOp.and IntKind.u32 c 65535 = c % 65536 := by
  rw [u32_and c 65535 h0 h1 (by decide) (by decide)]
  have : (c.toNat &&& (65535 : Int).toNat) = c.toNat % 65536 := Nat.and_two_pow_sub_one_eq_mod c.toNat 16
  rw [this]; omega
theorem ad_or16 (a b : Int) (h0 : 0 ≤ a) (h1 : a < 65536) (h2 : 0 ≤ b) (h3 : b < 65536) : bits BinOp.or IntKind.u32 (a * 65536) b = a * 65536 + b := by
  rw [u32_or (a * 65536) b (by omega) (by omega) h2 (by omega)]
  rw [nat_join 16 _ _ (by omega) (by omega)]; omega
set_option maxHeartbeats 400000 in
theorem adHalved_any (c : Int) (w : World) (h0 : 0 ≤ c) (h1 : c < 4294967296) :
    Calls Tryz.prog 109 #[.int .u32 c] w fun e w' => e = .returned (.agg #[.int .u64 (Adler.lo c), .int .u64 (Adler.up c)]) ∧ Ext w w' := by
  have hb := ad_and16 c h0 h1
  unfold Adler.lo Adler.up
  go_enter Tryz.func109, Tryz.ntmps109
  go_wp2
  go_returns
  exact ⟨rfl, (ext_refl _).new _⟩
set_option maxHeartbeats 400000 in
theorem adSum_any (a b : Int) (w : World) (h0 : 0 ≤ a) (h1 : a < 18446744073709551616) (h2 : 0 ≤ b) (h3 : b < 18446744073709551616) :
    Calls Tryz.prog 111 #[.agg #[.int .u64 a, .int .u64 b]] w fun e w' => e = .returned (.int .u32 (b % 65521 * 65536 + a % 65521)) ∧ Ext w w' := by
  have hb := ad_or16 (b % 65521) (a % 65521) (by omega) (by omega) (by omega) (by omega)
  go_enter Tryz.func111, Tryz.ntmps111
  go_wp2
  go_returns
  exact ⟨rfl, (ext_refl _).new _⟩
set_option maxHeartbeats 400000 in
theorem adAdd_any (a b x : Int) (g : Nat) (w : World) (hc0 : w.cell? ⟨g, 0, none⟩ = some (.int .u64 a)) (hc1 : w.cell? ⟨g, 1, none⟩ = some (.int .u64 b)) (hf0 : w.frozen? ⟨g, 0, none⟩ = false) (hf1 : w.frozen? ⟨g, 1, none⟩ = false) (h0 : 0 ≤ a) (h1 : a < 65521) (h2 : 0 ≤ b) (h3 : b < 65521) (h4 : 0 ≤ x) (h5 : x < 256) :
    Calls Tryz.prog 110 #[.pointer (some ⟨g, 0, none⟩), .int .u8 x] w fun e w' => e = .returned (.tuple #[]) ∧ w' = ((w.setCell ⟨g, 0, none⟩ (.int .u64 ((a + x) % 65521))).setCell ⟨g, 1, none⟩ (.int .u64 ((b + (a + x)) % 65521))).drew := by
  go_enter Tryz.func110, Tryz.ntmps110
  go_wp2
  go_region
  go_wp2
  go_returns
  exact ⟨rfl, rfl⟩
set_option maxHeartbeats 400000 in
theorem adMore_any (c : Nat) (s : ByteArray) (w : World) (h1 : (c : Int) < 4294967296) (hs : s.size ≤ maxLen) :
    Calls Tryz.prog 75 #[.int .u32 c, .string s] w fun e w' => e = .returned (.int .u32 (Adler.more c s.data.toList)) ∧ Ext w w' := by
  unfold maxLen at hs
  go_enter Tryz.func75, Tryz.ntmps75
  go_wp2_with (go_at_call 109; refine (adHalved_any c _ (by omega) h1).mono ?_; rintro e w1 ⟨rfl, hb1⟩)
  go_loopw [6] (fun i wr => ∃ k : Nat, k ≤ s.size ∧ i = .int .i64 k ∧ Blk wr w1.heap.size 120 #[.int .u64 (Adler.ad (Adler.halves c) (s.data.toList.take k)).1, .int .u64 (Adler.ad (Adler.halves c) (s.data.toList.take k)).2] ∧ Ext w wr)
     (fun i _ => s.size - (intOf i).toNat)
  case atStart => exact ⟨0, Nat.zero_le _, rfl, by rw [Adler.lo_nat, Adler.up_nat]; exact Blk.new _ _ _, hb1.new _⟩
  case round =>
    obtain ⟨k, hk, rfl, hblk, hbel⟩ := hrel
    obtain ⟨hA, hB⟩ := Adler.ad_lt _ (s.data.toList.take k) (Adler.halves_lt c).1 (Adler.halves_lt c).2
    have HS : Hid (∀ h : k < s.size, Adler.ad (Adler.halves c) (s.data.toList.take (k + 1)) = _) := fun h => by rw [take_snoc s k h, Adler.ad_snoc]
    have HE : Hid (k = s.size → Adler.more c s.data.toList = Adler.sum (Adler.ad (Adler.halves c) (s.data.toList.take k))) := fun h => by rw [h, take_all]; rfl
    generalize Adler.ad (Adler.halves c) (s.data.toList.take k) = p at *
    obtain ⟨lo, up⟩ := p
    dsimp only at *
    have c0 := hblk.cell 0
    have c1 := hblk.cell 1
    have f0 := hblk.frozen 0
    have f1 := hblk.frozen 1
    by_cases hlt : k < s.size
    · have hx : s[k].toNat < 256 := s[k].toNat_lt
      go_wp2_with (go_at_call 110; refine (adAdd_any _ _ _ _ _ c0 c1 f0 f1 (by omega) (by omega) (by omega) (by omega) (by omega) (by omega)).mono ?_; rintro e w2 ⟨rfl, rfl⟩)
      go_roundw
      case rel =>
        refine ⟨k + 1, by omega, by go_num, ?_, ((hbel.put hb1.size _).put hb1.size _).draw⟩
        rw [HS.out hlt]
        exact ((hblk.set 0 _).set 1 _).drew
      case measure => simp [intOf]; omega
    · go_wp2_with (go_at_call 111; refine (adSum_any _ _ _ (by omega) (by omega) (by omega) (by omega)).mono ?_; rintro e w2 ⟨rfl, hb2⟩)
      go_returns
      refine ⟨ret_int ?_, hbel.then hb2⟩
      rw [HE.out (by omega)]; simp only [Adler.sum]; omega
theorem adOf_any (s : ByteArray) (w : World) (hs : s.size ≤ maxLen) :
    Calls Tryz.prog 49 #[.string s] w fun e w' => e = .returned (.int .u32 (Adler.more 1 s.data.toList)) ∧ Ext w w' := by
  go_enter Tryz.func49, Tryz.ntmps49
  go_wp2_with (go_at_call 75; refine (adMore_any 1 s _ (by decide) hs).mono ?_; rintro e w2 ⟨rfl, hb2⟩)
  go_returns
  exact ⟨rfl, hb2⟩
end Go.Proofs.YthgnipangcmanaaGreat
end
section
namespace Go.Proofs.YthgnipangcmanaaGreat
open Go.RowKit Hy
theorem byteText_any (b : Nat) (w : World) (h1 : b < 256) :
    Calls Tryz.prog 17 #[.int .u8 b] w fun e w' => e = .returned (.string ⟨#[UInt8.ofNat b]⟩) ∧ Ext w w' := by
  have hcv := run_str1 (P := Tryz.prog) Tryz.underlying42 Tryz.underlying5 Tryz.underlying9 b h1
  go_enter Tryz.func17, Tryz.ntmps17
  go_wp2
  go_returns
  exact ⟨rfl, (ext_refl _).new _⟩
set_option maxHeartbeats 400000 in
theorem adlerOf_any (c : Nat) (s : ByteArray) (w : World) (h1 : (c : Int) < 4294967296) (hs : s.size ≤ 140737488351232) :
    Calls Tryz.prog 51 #[.int .u32 c, .string s] w fun e w' => e = .returned (.int .u32 (Adler.more c s.data.toList)) ∧ w = w' := by
  obtain ⟨g1, g2⟩ := Adler.halves_lt c
  obtain ⟨m0, m1⟩ := Adler.mul_bd ((s.size : Int) % 65521) ((c : Int) % 65536 % 65521) 2147483647 (by omega) (by omega) (by omega) (by omega) (Int.le_refl _)
  go_enter Tryz.func51, Tryz.ntmps51
  go_wp2
  go_loop [5, 6, 8] (fun a b i => ∃ k u : Nat, k ≤ s.size ∧ i = .int .i64 k ∧ a = .int .u64 ((Adler.halves c).1 + Adler.tot (s.data.toList.take k) : Nat) ∧ b = .int .u64 u ∧ u ≤ 140737488351232 ∧ Hid (u % 65521 = ((Adler.halves c).2 + s.size % 65521 * (Adler.halves c).1 + Adler.wt s.size (s.data.toList.take k)) % 65521))
     (fun _ _ i => s.size - (intOf i).toNat)
  case atStart => exact ⟨0, (Adler.halves c).2 + s.size % 65521 * (Adler.halves c).1, Nat.zero_le _, rfl, by go_num, by go_num, by
    have : s.size % 65521 * (Adler.halves c).1 ≤ 65520 * 65520 := Nat.mul_le_mul (by omega) (by omega)
    omega, by simp [Hid, Adler.wt]⟩
  case round =>
    obtain ⟨k, u, hk, rfl, rfl, rfl, hu, HU⟩ := hrel
    have ht := Adler.tot_le (s.data.toList.take k)
    have hl : (s.data.toList.take k).length = k := by simp; omega
    have HS : Hid (∀ h : k < s.size, Adler.tot (s.data.toList.take (k + 1)) = Adler.tot (s.data.toList.take k) + s[k].toNat ∧ Adler.wt s.size (s.data.toList.take (k + 1)) = Adler.wt s.size (s.data.toList.take k) + (s.size - k) % 65521 * s[k].toNat) := fun h => by
      rw [take_snoc s k h, Adler.tot_snoc, Adler.wt_snoc, hl]; exact ⟨rfl, rfl⟩
    have HE : Hid (k = s.size → u % 65521 * 65536 + ((Adler.halves c).1 + Adler.tot (s.data.toList.take k)) % 65521 = Adler.more c s.data.toList) := fun h => by
      subst h
      have e := HU.out
      rw [take_all] at e ⊢
      exact Adler.more_wt c u _ (by simpa using e)
    rw [hl] at ht
    generalize Adler.tot (s.data.toList.take k) = T at *
    generalize Adler.wt s.size (s.data.toList.take k) = W at *
    clear hl
    by_cases hlt : k < s.size
    · have hx : s[k].toNat < 256 := s[k].toNat_lt
      obtain ⟨n0, n1⟩ := Adler.mul_bd (((s.size : Int) - k) % 65521) (s[k].toNat : Int) 2147483647 (by omega) (by omega) (by omega) (by omega) (Int.le_refl _)
      go_wp2
      go_round
      case rel =>
        refine ⟨k + 1, (u + (s.size - k) % 65521 * s[k].toNat) % 65521, by omega, by go_num, ?_, ?_, by omega, ?_⟩
        · rw [(HS.out hlt).1]; go_num
        · refine congrArg _ ?_
          have e : (s.size : Int) - (k : Int) = ((s.size - k : Nat) : Int) := by omega
          rw [e]; rfl
        · have e := HU.out
          have e2 := (HS.out hlt).2
          unfold Hid
          rw [e2]; omega
      case measure => simp [intOf]; omega
    · go_wp2
      go_returns
      refine ⟨ret_int ?_, rfl⟩
      rw [← HE.out (by omega)]; omega
end Go.Proofs.YthgnipangcmanaaGreat
end
section
namespace Hy.Pge
open Go
theorem be4 (c : Nat) : Vary.be c 4 = [UInt8.ofNat (c / 16777216 % 256), UInt8.ofNat (c / 65536 % 256), UInt8.ofNat (c / 256 % 256), UInt8.ofNat (c % 256)] := by
  rw [Vary.be_cons, Vary.be_cons, Vary.be_cons, Vary.be_cons]
  simp only [ofNat_mod]
  have h0 : Vary.be c 0 = [] := List.eq_nil_of_length_eq_zero (Vary.be_len c 0)
  rw [h0]
  simp
theorem lit4 (c : Nat) : (#[Value.int .u8 ((c / 16777216 % 256 : Nat) : Int), Value.int .u8 ((c / 65536 % 256 : Nat) : Int), Value.int .u8 ((c / 256 % 256 : Nat) : Int), Value.int .u8 ((c % 256 : Nat) : Int)] : Array Value).toList = u8s (Vary.be c 4) := by
  rw [be4]
  simp only [u8s, List.map_cons, List.map_nil, UInt8.toNat_ofNat']
  simp only [Nat.reducePow, Nat.mod_mod]
end Hy.Pge
namespace Go.Proofs.YthgnipangcmanaaGreat
open Go.RowKit Hy
structure SealInv (y0 : World) (X1 s X4 : ByteArray) (L4 : List UInt8) (f : Nat → Bool) (v : Nat → Value) (w : World) : Prop where
  e : Ext y0 w
  c3 : f 3 = true → f 5 = false → v 3 = .string (X1)
  c5 : f 5 = true → f 19 = false → v 5 = .string (X1 ++ s)
  c17 : f 17 = true → f 18 = false → ∃ g, v 17 = .slice (some ⟨g, 0, none⟩) 4 4 ∧ Rd w (some ⟨g, 0, none⟩) (u8s L4)
  c18 : f 18 = true → f 19 = false → v 18 = .string (X4)
  c19 : f 19 = true → f 20 = false → v 19 = .string (X1 ++ s ++ X4)
  c20 : f 20 = true → v 20 = .string (X1 ++ s ++ X4)
set_option maxRecDepth 100000 in
set_option maxHeartbeats 3200000 in
theorem sealed_any (s : ByteArray) (w : World) (hs : s.size ≤ 100000) :
    Calls Tryz.prog 22 #[.string s] w fun e w' => e = .returned (.string ⟨(Pge.sld s.data.toList).toArray⟩) ∧ Ext w w' := by
  have HA := hid (adOf_any s w (by unfold maxLen; omega))
  have hc := Pge.more_lt 1 s.data.toList
  have hl : s.data.toList.length = s.size := Array.length_toList
  have G1 : Gives Tryz.prog 19 #[.int .u64 s.size] (.string ⟨(Vary.wr s.data.toList.length).toArray⟩) := fun wx => by rw [← hl]; exact write_any _ wx (by omega)
  have hwl := Vary.wr_len s.data.toList.length
  have hb8 := Vary.beh_le8 s.data.toList.length
  have hseal : Pge.sld s.data.toList = Vary.wr s.data.toList.length ++ s.data.toList ++ Vary.be (Adler.more 1 s.data.toList) 4 := rfl
  obtain ⟨X1, hX1⟩ : ∃ S : ByteArray, S = ⟨(Vary.wr s.data.toList.length).toArray⟩ := ⟨_, rfl⟩
  have hz1 : X1.size ≤ 9 := by rw [hX1, str_size]; omega
  rw [← hX1] at G1
  obtain ⟨c, hcc⟩ : ∃ c, c = Adler.more 1 s.data.toList := ⟨_, rfl⟩
  rw [← hcc] at HA hc hseal
  obtain ⟨X4, hX4⟩ : ∃ S : ByteArray, S = ⟨(Vary.be c 4).toArray⟩ := ⟨_, rfl⟩
  have HL4 := hid (Vary.be_len c 4)
  have hz4 : X4.size = 4 := by rw [hX4, str_size, Vary.be_len]
  have HVV := hid (show X1 ++ s ++ X4 = ⟨(Pge.sld s.data.toList).toArray⟩ by
    rw [hseal, hX1, hX4]
    conv => lhs; lhs; rhs; rw [← str_self s]
    rw [str_app, str_app])
  have HB4 := hid hX4
  have HLB := hid (Pge.lit4 c)
  have h3 : IntKind.u8.wrap ((c : Int) / 16777216) = ((c / 16777216 % 256 : Nat) : Int) := by rw [IntKind.wrap_u8]; omega
  have h2 : IntKind.u8.wrap ((c : Int) / 65536) = ((c / 65536 % 256 : Nat) : Int) := by rw [IntKind.wrap_u8]; omega
  have h1 : IntKind.u8.wrap ((c : Int) / 256) = ((c / 256 % 256 : Nat) : Int) := by rw [IntKind.wrap_u8]; omega
  have h0 : IntKind.u8.wrap (c : Int) = ((c % 256 : Nat) : Int) := by rw [IntKind.wrap_u8]; omega
  have hcI : (c : Int) < 4294967296 := by omega
  have hsI : (s.size : Int) ≤ 100000 := by omega
  have HBE := hid (show Vary.be c 4 = Vary.be c 4 from rfl)
  clear hX1 hX4 hcc hc hl hwl hb8 hseal hs
  generalize Vary.be c 4 = L4 at *
  generalize c / 16777216 % 256 = b3 at *
  generalize c / 65536 % 256 = b2 at *
  generalize c / 256 % 256 = b1 at *
  generalize c % 256 = b0 at *
  clear HBE
  go_enter Tryz.func22, Tryz.ntmps22
  go_wp2_with fail
  refine Calls.mono HA.out ?_
  rintro e w1 ⟨rfl, hx⟩
  have X1p := hid hx
  clear hx
  go_wp2
  refine wp_region_inv [] [0, 1, 2, 4, 6, 7, 8, 9, 10, 11, 12, 13, 14, 15, 16] [(3, []), (5, [3]), (17, []), (18, [17]), (19, [5, 18]), (20, [19])] (by kernel_rfl) (by kernel_rfl) (fun _ _ _ _ _ h => h) (by kernel_rfl) (by kernel_rfl) (by rfl) ?_
  simp only [List.filterMap_cons, List.filterMap_nil, List.getElem?_toArray, List.getElem?_cons_zero, List.getElem?_cons_succ, Option.map_some]
  repeat (refine wpQ_val (by rfl) ?_; intro K hK; go_big_quiet_op; go_big_quiet_on)
  refine wpQ_nil ?_
  refine ⟨fun f v w => SealInv w1 X1 s X4 L4 f v w, by rfl, ?_, ?_, ?_⟩
  · exact ⟨(ext_refl w1).draw, fun h _ => absurd h (by decide), fun h _ => absurd h (by decide), fun h _ => absurd h (by decide), fun h _ => absurd h (by decide), fun h _ => absurd h (by decide), fun h => absurd h (by decide)⟩
  · refine ⟨?_, ?_, ?_, ?_, ?_, ?_, trivial⟩
    · intro f v w hf hd hcl I K hK
      have n5 : f 5 = false := (by cases h : f 5 with | false => rfl | true => exact absurd ((hcl (5, [3]) (by simp) h 3 (by simp)).symm.trans hf) (by decide))
      have n19 : f 19 = false := (by cases h : f 19 with | false => rfl | true => exact absurd ((hcl (19, [5, 18]) (by simp) h 5 (by simp)).symm.trans n5) (by decide))
      have n20 : f 20 = false := (by cases h : f 20 with | false => rfl | true => exact absurd ((hcl (20, [19]) (by simp) h 19 (by simp)).symm.trans n19) (by decide))
      simp only [putAll]
      go_simp
      refine Calls.mono (G1 _) ?_
      rintro e w' ⟨rfl, hx⟩
      refine hK _ _ rfl (fun _ h => h.then hx) ?_
      exact {
        e := I.e.then hx
        c3 := fun _ _ => rfl
        c5 := fun h5 _ => absurd ((show f 5 = true from h5).symm.trans n5) (by decide)
        c17 := fun h17 h18 => by obtain ⟨g, e, r⟩ := (I.c17 h17 h18); exact ⟨g, e, r.keep hx⟩
        c18 := fun h18 h19 => (I.c18 h18 h19)
        c19 := fun h19 _ => absurd ((show f 19 = true from h19).symm.trans n19) (by decide)
        c20 := fun h20 => absurd ((show f 20 = true from h20).symm.trans n20) (by decide)
      }
    · intro f v w hf hd hcl I K hK
      have t3 : f 3 = true := hd 3 (by simp)
      have n19 : f 19 = false := (by cases h : f 19 with | false => rfl | true => exact absurd ((hcl (19, [5, 18]) (by simp) h 5 (by simp)).symm.trans hf) (by decide))
      have n20 : f 20 = false := (by cases h : f 20 with | false => rfl | true => exact absurd ((hcl (20, [19]) (by simp) h 19 (by simp)).symm.trans n19) (by decide))
      simp only [putAll, dstOf, List.getElem?_toArray, List.getElem?_cons_zero, List.getElem?_cons_succ, Option.bind_some]
      rw [(I.c3 t3 hf)]
      go_simp
      try rw [if_neg (by omega)]
      refine hK _ _ rfl (fun _ h => h) ?_
      exact {
        e := I.e
        c3 := fun _ h5 => absurd (show true = false from h5) (by decide)
        c5 := fun _ _ => rfl
        c17 := fun h17 h18 => (I.c17 h17 h18)
        c18 := fun h18 h19 => (I.c18 h18 h19)
        c19 := fun h19 _ => absurd ((show f 19 = true from h19).symm.trans n19) (by decide)
        c20 := fun h20 => absurd ((show f 20 = true from h20).symm.trans n20) (by decide)
      }
    · intro f v w hf hd hcl I K hK
      have n18 : f 18 = false := (by cases h : f 18 with | false => rfl | true => exact absurd ((hcl (18, [17]) (by simp) h 17 (by simp)).symm.trans hf) (by decide))
      have n19 : f 19 = false := (by cases h : f 19 with | false => rfl | true => exact absurd ((hcl (19, [5, 18]) (by simp) h 18 (by simp)).symm.trans n18) (by decide))
      have n20 : f 20 = false := (by cases h : f 20 with | false => rfl | true => exact absurd ((hcl (20, [19]) (by simp) h 19 (by simp)).symm.trans n19) (by decide))
      simp only [putAll]
      go_simp
      have hx := Ext.new (ext_refl w) (.cells #[.int .u8 (b3 : Int), .int .u8 (b2 : Int), .int .u8 (b1 : Int), .int .u8 (b0 : Int)] 5)
      refine hK _ _ rfl (fun _ h => h.then hx) ?_
      exact {
        e := I.e.then hx
        c3 := fun h3 h5 => (I.c3 h3 h5)
        c5 := fun h5 h19 => (I.c5 h5 h19)
        c17 := fun _ _ => ⟨_, rfl, rd_lit (w := w) (g := w.heap.size) (C := #[.int .u8 (b3 : Int), .int .u8 (b2 : Int), .int .u8 (b1 : Int), .int .u8 (b0 : Int)]) (e := 5) (fz := (0, 0)) (cs := u8s L4) rfl HLB.out⟩
        c18 := fun h18 _ => absurd ((show f 18 = true from h18).symm.trans n18) (by decide)
        c19 := fun h19 _ => absurd ((show f 19 = true from h19).symm.trans n19) (by decide)
        c20 := fun h20 => absurd ((show f 20 = true from h20).symm.trans n20) (by decide)
      }
    · intro f v w hf hd hcl I K hK
      have t17 : f 17 = true := hd 17 (by simp)
      have n19 : f 19 = false := (by cases h : f 19 with | false => rfl | true => exact absurd ((hcl (19, [5, 18]) (by simp) h 18 (by simp)).symm.trans hf) (by decide))
      have n20 : f 20 = false := (by cases h : f 20 with | false => rfl | true => exact absurd ((hcl (20, [19]) (by simp) h 19 (by simp)).symm.trans n19) (by decide))
      simp only [putAll, dstOf, List.getElem?_toArray, List.getElem?_cons_zero, List.getElem?_cons_succ, Option.bind_some]
      obtain ⟨g, ev, rv⟩ := (I.c17 t17 hf)
      rw [ev]
      have hcv := run_str_rd (P := Tryz.prog) (src := 42) (dst := 9) (e := 5) Tryz.underlying42 Tryz.underlying5 Tryz.underlying9 _ 4 4 L4 HL4.out rv (fun h => by cases h)
      rw [← HB4.out] at hcv
      go_simp
      refine hK _ _ rfl (fun _ h => h) ?_
      exact {
        e := I.e
        c3 := fun h3 h5 => (I.c3 h3 h5)
        c5 := fun h5 h19 => (I.c5 h5 h19)
        c17 := fun _ h18 => absurd (show true = false from h18) (by decide)
        c18 := fun _ _ => rfl
        c19 := fun h19 _ => absurd ((show f 19 = true from h19).symm.trans n19) (by decide)
        c20 := fun h20 => absurd ((show f 20 = true from h20).symm.trans n20) (by decide)
      }
    · intro f v w hf hd hcl I K hK
      have t5 : f 5 = true := hd 5 (by simp)
      have t18 : f 18 = true := hd 18 (by simp)
      have t3 : f 3 = true := hcl (5, [3]) (by simp) t5 3 (by simp)
      have t17 : f 17 = true := hcl (18, [17]) (by simp) t18 17 (by simp)
      have n20 : f 20 = false := (by cases h : f 20 with | false => rfl | true => exact absurd ((hcl (20, [19]) (by simp) h 19 (by simp)).symm.trans hf) (by decide))
      simp only [putAll, dstOf, List.getElem?_toArray, List.getElem?_cons_zero, List.getElem?_cons_succ, Option.bind_some]
      rw [(I.c5 t5 hf), (I.c18 t18 hf)]
      go_simp
      try rw [if_neg (by omega)]
      refine hK _ _ rfl (fun _ h => h) ?_
      exact {
        e := I.e
        c3 := fun _ h5 => absurd ((show f 5 = false from h5).symm.trans t5) (by decide)
        c5 := fun _ h19 => absurd (show true = false from h19) (by decide)
        c17 := fun _ h18 => absurd ((show f 18 = false from h18).symm.trans t18) (by decide)
        c18 := fun _ h19 => absurd (show true = false from h19) (by decide)
        c19 := fun _ _ => rfl
        c20 := fun h20 => absurd ((show f 20 = true from h20).symm.trans n20) (by decide)
      }
    · intro f v w hf hd hcl I K hK
      have t19 : f 19 = true := hd 19 (by simp)
      have t5 : f 5 = true := hcl (19, [5, 18]) (by simp) t19 5 (by simp)
      have t18 : f 18 = true := hcl (19, [5, 18]) (by simp) t19 18 (by simp)
      have t3 : f 3 = true := hcl (5, [3]) (by simp) t5 3 (by simp)
      have t17 : f 17 = true := hcl (18, [17]) (by simp) t18 17 (by simp)
      simp only [putAll, dstOf, List.getElem?_toArray, List.getElem?_cons_zero, List.getElem?_cons_succ, Option.bind_some]
      rw [(I.c19 t19 hf)]
      go_simp
      refine hK _ _ rfl (fun _ h => h) ?_
      exact {
        e := I.e
        c3 := fun _ h5 => absurd ((show f 5 = false from h5).symm.trans t5) (by decide)
        c5 := fun _ h19 => absurd ((show f 19 = false from h19).symm.trans t19) (by decide)
        c17 := fun _ h18 => absurd ((show f 18 = false from h18).symm.trans t18) (by decide)
        c18 := fun _ h19 => absurd ((show f 19 = false from h19).symm.trans t19) (by decide)
        c19 := fun _ h20 => absurd (show true = false from h20) (by decide)
        c20 := fun _ => rfl
      }
  intro f v w' hall I
  have t20 : f 20 = true := hall 20 (by simp)
  have XI := I.e
  have EV := I.c20 t20
  simp only [putAll, dstOf, List.map_cons, List.map_nil, List.getElem?_toArray, List.getElem?_cons_zero, List.getElem?_cons_succ, Option.bind_some]
  rw [EV]
  clear EV I hall
  clear t20
  have XE := hid (X1p.out.then XI)
  clear XI
  go_wp2
  go_returns
  exact ⟨by rw [← HVV.out]; rfl, XE.out⟩
set_option maxHeartbeats 800000 in
theorem sealedOf_any (s : ByteArray) (w : World) (hs : s.size ≤ 100000) :
    Calls Tryz.prog 24 #[.string s] w fun e w' => e = .returned (.string ⟨(Pge.sld s.data.toList).toArray⟩) ∧ Ext w w' := by
  have HA := hid (fun wx => adlerOf_any 1 s wx (by decide) (by omega))
  have hc := Pge.more_lt 1 s.data.toList
  have hl : s.data.toList.length = s.size := Array.length_toList
  have HV := hid (fun wx => varyBytes_any s.data.toList.length wx (by omega))
  have hwl := Vary.wr_len s.data.toList.length
  have hb8 := Vary.beh_le8 s.data.toList.length
  have hseal : Pge.sld s.data.toList = Vary.wr s.data.toList.length ++ s.data.toList ++ Vary.be (Adler.more 1 s.data.toList) 4 := rfl
  obtain ⟨X1, hX1⟩ : ∃ S : ByteArray, S = ⟨(Vary.wr s.data.toList.length).toArray⟩ := ⟨_, rfl⟩
  have hz1 : X1.size ≤ 9 := by rw [hX1, str_size]; omega
  rw [← hX1, hl] at HV
  obtain ⟨c, hcc⟩ : ∃ c, c = Adler.more 1 s.data.toList := ⟨_, rfl⟩
  rw [← hcc] at HA hc hseal
  have HB := hid (fun wx => bigBytes_any c 4 wx (by omega) (by decide) (by decide))
  rw [show (4 : Int).toNat = 4 from rfl] at HB
  obtain ⟨X4, hX4⟩ : ∃ S : ByteArray, S = ⟨(Vary.be c 4).toArray⟩ := ⟨_, rfl⟩
  rw [← hX4] at HB
  have hz4 : X4.size = 4 := by rw [hX4, str_size, Vary.be_len]
  have HVV := hid (show X1 ++ s ++ X4 = ⟨(Pge.sld s.data.toList).toArray⟩ by
    rw [hseal, hX1, hX4]
    conv => lhs; lhs; rhs; rw [← str_self s]
    rw [str_app, str_app])
  have hcI : (c : Int) < 4294967296 := by omega
  have hwc : IntKind.u64.wrap (c : Int) = (c : Int) := by rw [IntKind.wrap_u64]; omega
  have hsI : (s.size : Int) ≤ 100000 := by omega
  have hws : IntKind.u64.wrap (s.size : Int) = (s.size : Int) := by rw [IntKind.wrap_u64]; omega
  clear hX1 hX4 hcc hc hl hwl hb8 hseal hs
  go_enter Tryz.func24, Tryz.ntmps24
  go_wp2_with fail
  refine Calls.mono (HV.out _) ?_
  rintro e w1 ⟨rfl, hx⟩
  have Xp := hid hx
  clear hx
  go_wp2_with fail
  refine Calls.mono (HA.out _) ?_
  rintro e _ ⟨rfl, rfl⟩
  go_wp2_with fail
  refine Calls.mono (HB.out _) ?_
  rintro e w2 ⟨rfl, hx⟩
  replace Xp := hid (Xp.out.then hx)
  clear hx
  go_wp2
  go_returns
  exact ⟨by rw [← HVV.out]; rfl, Xp.out⟩
end Go.Proofs.YthgnipangcmanaaGreat
end
section
namespace Hy.Pge
open Go
theorem or_byte32 (x b : Nat) (hx : x ≤ 16777215) (hb : b < 256) : bits .or .u32 ((x : Int) * 256) (b : Int) = ((x * 256 + b : Nat) : Int) := by
  rw [u32_or ((x : Int) * 256) b (by omega) (by omega) (by omega) (by omega)]
  rw [show ((x : Int) * 256).toNat = x * 2 ^ 8 by omega, show ((b : Nat) : Int).toNat = b by omega]
  rw [← Nat.shiftLeft_eq, ← Nat.shiftLeft_add_eq_or_of_lt (show b < 2 ^ 8 by omega), Nat.shiftLeft_eq]
theorem unbe_part (l : Tx) (i : Nat) (hl : l.length = 4) (hi : i < 4) : Vary.unbe 0 (l.take i) ≤ 16777215 := by
  have h := Vary.unbe_lt (l.take i)
  rw [List.length_take, hl] at h
  have : 256 ^ min i 4 ≤ 256 ^ 3 := Nat.pow_le_pow_right (by decide) (by omega)
  omega
end Hy.Pge
namespace Go.Proofs.YthgnipangcmanaaGreat
open Go.RowKit Hy
set_option maxRecDepth 100000 in
set_option maxHeartbeats 2000000 in
theorem unsealed_any (S : ByteArray) (w : World) (hs : S.size ≤ 281474976710656) :
    Calls Tryz.prog 27 #[.string S] w fun e w' => e = .returned (.tuple #[.string ⟨(Pge.uns S.data.toList).1.toArray⟩, .int .i64 ((Pge.uns S.data.toList).2.1 : Nat), .int .i64 ((Pge.uns S.data.toList).2.2 : Nat)]) ∧ Ext w w' := by
  have CR := hid (fun wx => read_any S wx)
  obtain ⟨n, k, er, hrd⟩ : ∃ n k er, Vary.rd S.data.toList = (n, k, er) := ⟨_, _, _, rfl⟩
  rw [hrd] at CR
  simp only at CR
  obtain ⟨R, hR⟩ : ∃ R, R = Pge.uns S.data.toList := ⟨_, rfl⟩
  rw [← hR]
  by_cases he : er = 0
  · subst he
    obtain ⟨g1, g2, g3, g4, _⟩ := Vary.rd_ok (s := S.data.toList) (by rw [hrd])
    rw [hrd] at g1 g2 g3 g4
    simp only at g1 g2 g3 g4
    have hsz : S.data.size = S.size := rfl
    rw [Array.length_toList, hsz] at g2
    have hkI : (k : Int) ≤ 9 := by omega
    have hk1 : (1 : Int) ≤ (k : Int) := by omega
    have hSzI : (S.size : Int) ≤ 281474976710656 := by omega
    have hkS : (k : Int) ≤ (S.size : Int) := by omega
    have hnI : (n : Int) ≤ 18446744073709551615 := by omega
    obtain ⟨r, hr⟩ : ∃ r, r = S.data.toList.drop k := ⟨_, rfl⟩
    have hrl : r.length = S.size - k := by rw [hr, List.length_drop, Array.length_toList, hsz]
    obtain ⟨q, hq⟩ : ∃ q : Nat, q = S.size - k := ⟨_, rfl⟩
    have hqI : (S.size : Int) - (k : Int) = (q : Int) := by omega
    have hwq : IntKind.u64.wrap (q : Int) = (q : Int) := by rw [IntKind.wrap_u64]; omega
    have hqB : (q : Int) ≤ 281474976710656 := by omega
    by_cases h5 : r.length < n + 4
    · have HE := hid (show R = ([], 0, 5) by rw [hR, Pge.uns_none hrd hr.symm h5])
      by_cases h4 : q < 4
      · have h4I : (q : Int) < 4 := by omega
        clear hrd hR hs hsz g1 g2 g3 g4 hr hrl hq h4 h5
        go_enter Tryz.func27, Tryz.ntmps27
        go_wp2_with fail
        refine Calls.mono (CR.out _) ?_
        rintro e' w1 ⟨rfl, hx⟩
        have XP := hid hx
        clear hx
        go_wp2
        go_returns
        exact ⟨by rw [HE.out]; rfl, XP.out⟩
      · have h4I : ¬ (q : Int) < 4 := by omega
        have h4n : (q : Int) - 4 < (n : Int) := by omega
        have hw4 : IntKind.u64.wrap ((q : Int) - 4) = (q : Int) - 4 := by rw [IntKind.wrap_u64]; omega
        clear hrd hR hs hsz g1 g2 g3 g4 hr hrl hq h4 h5
        go_enter Tryz.func27, Tryz.ntmps27
        go_wp2_with fail
        refine Calls.mono (CR.out _) ?_
        rintro e' w1 ⟨rfl, hx⟩
        have XP := hid hx
        clear hx
        go_wp2
        go_returns
        exact ⟨by rw [HE.out]; rfl, XP.out⟩
    · have hwn : IntKind.i64.wrap (n : Int) = (n : Int) := by rw [IntKind.wrap_i64]; omega
      have hn2 : (n : Int) ≤ 281474976710656 := by omega
      have hn0 : (0 : Int) ≤ (n : Int) := by omega
      have h4I : ¬ (q : Int) < 4 := by omega
      have h4n : ¬ (q : Int) - 4 < (n : Int) := by omega
      have hw4 : IntKind.u64.wrap ((q : Int) - 4) = (q : Int) - 4 := by rw [IntKind.wrap_u64]; omega
      have hF := fun wx : World => run_fromto (P := Tryz.prog) (w := wx) Tryz.underlying9 S .i64 .i64 k (k + n) (by omega) (by omega)
      have hG := fun wx : World => run_fromto (P := Tryz.prog) (w := wx) Tryz.underlying9 S .i64 .i64 (k + n) (k + n + 4) (by omega) (by omega)
      rw [Nat.add_sub_cancel_left, ← hr] at hF
      rw [Nat.add_sub_cancel_left, ← List.drop_drop, ← hr] at hG
      simp only [Int.natCast_add] at hF hG
      rw [show ((4 : Nat) : Int) = 4 from rfl] at hG
      have hsum := Pge.uns_sum hrd hr.symm h5
      have hok := Pge.uns_ok hrd hr.symm h5
      rw [← hR] at hsum hok
      obtain ⟨b, hb⟩ : ∃ b, b = r.take n := ⟨_, rfl⟩
      obtain ⟨q4, hq4⟩ : ∃ b, b = (r.drop n).take 4 := ⟨_, rfl⟩
      have h4l : q4.length = 4 := by rw [hq4, List.length_take, List.length_drop]; omega
      have hbl : b.length = n := by rw [hb, List.length_take]; omega
      rw [← hb] at hF hsum hok
      rw [← hq4] at hG hsum hok
      have hbs : (⟨b.toArray⟩ : ByteArray).size ≤ 281474976710656 := by rw [str_size]; omega
      have hc := Pge.more_lt 1 b
      have HA := hid (fun wx => adOf_any ⟨b.toArray⟩ wx (by unfold maxLen; omega))
      rw [show (⟨b.toArray⟩ : ByteArray).data.toList = b from rfl] at HA
      obtain ⟨SB, hSB⟩ : ∃ S : ByteArray, S = ⟨b.toArray⟩ := ⟨_, rfl⟩
      obtain ⟨S4, hS4⟩ : ∃ S : ByteArray, S = ⟨q4.toArray⟩ := ⟨_, rfl⟩
      rw [← hSB] at HA hF
      rw [← hS4] at hG
      obtain ⟨m, hm⟩ : ∃ m, m = Adler.more 1 b := ⟨_, rfl⟩
      rw [← hm] at HA hsum hok hc
      have hmI : (m : Int) ≤ 4294967295 := by omega
      have HQ4 := hid h4l
      have HS4 := hid hS4
      have HSB := hid hSB
      have hS4z : S4.size = 4 := by rw [hS4, str_size, h4l]
      have hcv := fun (wx : World) (X : ByteArray) => run_bytes_of_string (P := Tryz.prog) wx 9 42 5 X Tryz.underlying9 Tryz.underlying42 Tryz.underlying5
      have hul := Vary.unbe_lt q4
      rw [h4l] at hul
      have HSUM := hid hsum
      have HOK := hid hok
      have HUP := hid (fun i hi => Pge.unbe_part q4 i h4l hi)
      clear hrd hR hs hsz g1 g2 g3 g4 hr hrl hq h5 hsum hok hb hq4 h4l hbl hbs hSB hS4 hm hc
      go_enter Tryz.func27, Tryz.ntmps27
      go_wp2_with fail
      refine Calls.mono (CR.out _) ?_
      rintro e' w1 ⟨rfl, hx⟩
      have XP := hid hx
      clear hx
      go_wp2
      go_loopw [11, 13, 51] (fun a _ c wr => ∃ i : Nat, i ≤ 4 ∧ c = .int .i64 i ∧ a = .int .u32 (Vary.unbe 0 (q4.take i) : Nat) ∧ Rd wr (some ⟨w1.heap.size, 0, none⟩) (u8s q4) ∧ Hid (Ext w wr)) (fun _ _ c _ => 4 - (intOf c).toNat)
      case atStart => exact ⟨0, Nat.zero_le _, rfl, rfl, by have := (rd_bytes (w := w1) (g := w1.heap.size) (c := grownCap w1 4 0 5) (s := S4) (e := 5) (fz := ((bytesRow S4 (grownCap w1 4 0 5)).size, (bytesRow S4 (grownCap w1 4 0 5)).size + 1)) rfl).keep (ext_refl _).draw; rw [HS4.out] at this ⊢; exact this, hid (Ext.new (Ext.draw XP.out) _)⟩
      case round =>
        obtain ⟨i, hi, rfl, rfl, hrdq, HX⟩ := hrel
        clear hcv hG
        by_cases hlt : i < 4
        · obtain ⟨bb, oo, e0, hbb, hcell⟩ := hrdq (by rw [u8s_len, HQ4.out]; omega)
          simp only [Option.some.injEq, Addr.mk.injEq, and_true] at e0
          obtain ⟨rfl, rfl⟩ := e0
          have hiq : i < q4.length := by rw [HQ4.out]; exact hlt
          have hc := hcell i (.int .u8 (q4[i].toNat : Int)) (by simp [u8s, hiq])
          rw [Nat.zero_add] at hc
          have HU := hid (show Vary.unbe 0 (q4.take (i + 1)) = Vary.unbe 0 (q4.take i) * 256 + q4[i].toNat by rw [List.take_succ_eq_append_getElem hiq, Vary.unbe_snoc])
          have hx1 : (Vary.unbe 0 (q4.take i) : Int) ≤ 16777215 := by have := HUP.out i hlt; omega
          have hO := Pge.or_byte32 (Vary.unbe 0 (q4.take i)) q4[i].toNat (by omega) q4[i].toNat_lt
          have hb1 : (q4[i].toNat : Int) ≤ 255 := by have := q4[i].toNat_lt; omega
          have HR2 := hid hrdq
          have hiI : (i : Int) < 4 := by omega
          clear hrdq hcell
          generalize q4[i].toNat = y at *
          generalize Vary.unbe 0 (q4.take i) = x at *
          clear hiq
          go_wp2
          go_roundw
          case rel => exact ⟨i + 1, by omega, by go_num, by rw [HU.out]; go_num, HR2.out, HX⟩
          case measure => simp [intOf]; omega
        · obtain rfl : i = 4 := by omega
          rw [show ((4 : Nat) : Int) = 4 from rfl]
          have e1 : q4.take 4 = q4 := List.take_of_length_le (by rw [HQ4.out]; exact Nat.le_refl _)
          rw [e1]
          clear e1 hrdq hlt hi
          by_cases hme : m = Vary.unbe 0 q4
          · have HE := hid (HOK.out hme)
            rw [← hme]
            clear hme hul HSUM HOK HUP
            go_wp2_with fail
            refine Calls.mono (HA.out _) ?_
            rintro e' w5 ⟨rfl, hx⟩
            have X5 := hid (HX.out.then hx)
            clear hx
            go_wp2
            go_returns
            exact ⟨by rw [HE.out, HSB.out]; rfl, X5.out⟩
          · have HE := hid (HSUM.out hme)
            have h7 : ((m : Int) != (Vary.unbe 0 q4 : Nat)) = true := by rw [bne_iff_ne]; omega
            have h8 : ((m : Int) == (Vary.unbe 0 q4 : Nat)) = false := by rw [beq_eq_false_iff_ne]; omega
            have hulI : ((Vary.unbe 0 q4 : Nat) : Int) ≤ 4294967295 := by omega
            generalize Vary.unbe 0 q4 = u4 at *
            clear hme hul HSUM HOK HUP
            go_wp2_with fail
            refine Calls.mono (HA.out _) ?_
            rintro e' w5 ⟨rfl, hx⟩
            have X5 := hid (HX.out.then hx)
            clear hx
            go_wp2
            go_returns
            exact ⟨by rw [HE.out]; rfl, X5.out⟩
  · have HE := hid (show R = ([], 0, er) by rw [hR, Pge.uns_vary hrd he])
    have h3 : ((er : Int) != 0) = true := by rw [bne_iff_ne]; omega
    have h4 : ((er : Int) == 0) = false := by rw [beq_eq_false_iff_ne]; omega
    clear hrd hR hs he
    go_enter Tryz.func27, Tryz.ntmps27
    go_wp2_with fail
    refine Calls.mono (CR.out _) ?_
    rintro e' w1 ⟨rfl, hx⟩
    have XP := hid hx
    clear hx
    go_wp2
    go_returns
    exact ⟨by rw [HE.out]; rfl, XP.out⟩
end Go.Proofs.YthgnipangcmanaaGreat
end
section
namespace Hy.Pge
open Go Hy.Cel
theorem hd_good (s : Tx) (h : (hd s).2.2.2.2 = 0) : ((hd s).1 = 1 ∨ (hd s).1 = 2) ∧ (hd s).2.1 ≤ 64 ∧ (hd s).2.2.1 ≤ 64 ∧ (hd s).2.2.2.1.length ≤ s.length := by
  cases s with
  | nil => rw [hd_nil] at h; cases h
  | cons c t =>
    by_cases h1 : c.toNat ≠ 1 ∧ c.toNat ≠ 2
    · rw [hd_kind h1] at h; cases h
    · obtain ⟨n, k, e, hrd⟩ : ∃ n k e, Vary.rd t = (n, k, e) := ⟨_, _, _, rfl⟩
      by_cases he : e = 0
      · subst he
        by_cases h64 : 64 < n
        · rw [hd_many h1 hrd h64] at h; cases h
        · obtain ⟨m, j, f, hrd2⟩ : ∃ m j f, Vary.rd (t.drop k) = (m, j, f) := ⟨_, _, _, rfl⟩
          by_cases hf : f = 0
          · subst hf
            by_cases hmn : n < m
            · rw [hd_state h1 hrd h64 rfl hrd2 hmn] at h; cases h
            · rw [hd_ok h1 hrd h64 rfl hrd2 hmn]
              refine ⟨by show c.toNat = 1 ∨ c.toNat = 2; omega, by show n ≤ 64; omega, by show m ≤ 64; omega, ?_⟩
              show ((t.drop k).drop j).length ≤ (c :: t).length
              rw [List.length_drop, List.length_drop, List.length_cons]; omega
          · rw [hd_2 h1 hrd h64 rfl hrd2 hf] at h; exact absurd h hf
      · rw [hd_1 h1 hrd he] at h; exact absurd h he
theorem uns_len (s : Tx) : (uns s).1.length ≤ s.length := by
  unfold uns
  (repeat' split) <;> simp <;> omega
theorem mk_len (many there : Nat) (s : Tx) : (mk many there s).2.1.length ≤ s.length := by
  unfold mk
  (repeat' split) <;> simp
theorem mk_b (many there : Nat) (s : Tx) (h : many ≤ 64) : (mk many there s).1.length ≤ 64 := by
  unfold mk
  split
  · simpa using h
  · split
    · simp
    · split
      · simp
      · rename_i h3
        split
        · simp
        · show (Mrk.marks _).length ≤ 64
          rw [Mrk.marks_len, Bits.up_ok _ _ _ (Decidable.not_not.1 h3), Bits.unp_len, Int.toNat_natCast]; exact h
theorem dn_len (kind there : Nat) (s : Tx) : (dn kind there s).1.length ≤ 64 := by
  unfold dn
  split
  · split <;> simp
  · split
    · show (List.map _ _).length ≤ 64
      rw [List.length_map]; exact Cod.rnm_len _ _
    · show (List.map _ _).length ≤ 64
      rw [List.length_map]; exact Cod.rtx_len _ _
end Hy.Pge
namespace Go.Proofs.YthgnipangcmanaaGreat
open Go.RowKit Hy
def CellsOut (R : Nat × List Cel × Nat) (w : World) (e : Ending) (w' : World) : Prop :=
  ∃ B n c, e = .returned (.tuple #[.int .i64 (R.1 : Nat), .slice B n c, .int .i64 (R.2.2 : Nat)]) ∧ n = R.2.1.length ∧ Rd w' B (cls R.2.1) ∧ Ext w w'
set_option maxRecDepth 100000 in
set_option maxHeartbeats 3200000 in
theorem pgCells_any (S : ByteArray) (w : World) (hs : S.size ≤ 281474976710656) :
    Calls Tryz.prog 28 #[.string S] w (CellsOut (Pge.cel S.data.toList) w) := by
  have hsz : S.data.toList.length = S.size := Array.length_toList
  have HB := hid (Blk.new w 81 #[.string S])
  have X0 := hid (Ext.new (ext_refl w) (.cells #[.string S] 81))
  have H1 := hid (fun wx hB => head_any S w.heap.size wx hB hs)
  have hgood := Pge.hd_good S.data.toList
  obtain ⟨kind, many, there, r, e1, hhd⟩ : ∃ kind many there r e1, Pge.hd S.data.toList = (kind, many, there, r, e1) := ⟨_, _, _, _, _, rfl⟩
  unfold HeadOut at H1
  rw [hhd] at hgood
  simp only [hhd] at H1
  simp only at hgood
  obtain ⟨R, hR⟩ : ∃ R, R = Pge.cel S.data.toList := ⟨_, rfl⟩
  rw [← hR]
  by_cases he1 : e1 = 0
  · subst he1
    obtain ⟨hk, hm64, ht64, hrl⟩ := hgood rfl
    obtain ⟨RR, hRR⟩ : ∃ RR : ByteArray, RR = ⟨r.toArray⟩ := ⟨_, rfl⟩
    have hRd : RR.data.toList = r := by rw [hRR]
    have hRs : RR.size = r.length := by rw [hRR, str_size]
    rw [← hRR] at H1
    have H2 := hid (fun wx hB => marks_any many there RR w.heap.size wx hB (by omega) hm64 ht64)
    rw [hRd] at H2
    have hml := Pge.mk_len many there r
    have hmb := Pge.mk_b many there r hm64
    obtain ⟨b, r2, e2, hmk⟩ : ∃ b r2 e2, Pge.mk many there r = (b, r2, e2) := ⟨_, _, _, rfl⟩
    rw [hmk] at hml hmb
    unfold MarksOut at H2
    simp only [hmk] at H2
    simp only at hml hmb
    by_cases he2 : e2 = 0
    · subst he2
      obtain ⟨RS, hRS⟩ : ∃ RS : ByteArray, RS = ⟨r2.toArray⟩ := ⟨_, rfl⟩
      have hSd : RS.data.toList = r2 := by rw [hRS]
      have hSs : RS.size = r2.length := by rw [hRS, str_size]
      rw [← hRS] at H2
      have H3 := hid (fun wx hB => dense_any (kind : Nat) (there : Nat) kind there RS w.heap.size wx hB (by omega) rfl rfl hk ht64)
      rw [hSd] at H3
      have hdl := Pge.dn_len kind there r2
      obtain ⟨d, e3, hdn⟩ : ∃ d e3, Pge.dn kind there r2 = (d, e3) := ⟨_, _, rfl⟩
      rw [hdn] at hdl
      unfold DenseOut at H3
      simp only [hdn] at H3
      simp only at hdl
      by_cases he3 : e3 = 0
      · subst he3
        have HE := hid (hR.trans (Pge.cel_end hhd hmk hdn))
        have H4 := hid (fun wx (A B : Option Addr) (ca cb : Nat) (h1 : Rd wx A (bls b)) (h2 : Rd wx B (cls d)) (hc : d.length ≤ cb) => join_any (kind : Nat) b d A B d.length b.length ca cb wx rfl h1 rfl h2 hc (by omega) (by omega))
        obtain ⟨J, hJ⟩ : ∃ J, J = Cel.jout (kind : Nat) b d := ⟨_, rfl⟩
        obtain ⟨ej, hej⟩ : ∃ ej, ej = Cel.jchk (kind : Nat) b d := ⟨_, rfl⟩
        rw [← hJ, ← hej] at HE
        simp only [← hJ, ← hej] at H4
        clear hs hsz hhd hgood hR hk hm64 ht64 hrl hRR hRd hRs hmk hml hmb hRS hSd hSs hdn hdl hJ hej
        go_enter Tryz.func28, Tryz.ntmps28
        go_wp2_with fail
        refine Calls.mono (H1.out _ HB.out) ?_
        rintro e w1 ⟨a1, a2, a3, rfl, hx, hq⟩
        obtain ⟨rfl, rfl, rfl, hb⟩ := hq trivial
        have HB1 := hid hb
        have X1 : Hid (Ext w w1) := hid (X0.out.trans (But.below hx (Nat.le_refl _) X0.out.size))
        clear hx hb hq
        go_wp2_with fail
        refine Calls.mono (H2.out _ HB1.out) ?_
        rintro e w2 ⟨B1, n1, c1, rfl, hx, hq⟩
        obtain ⟨rfl, hr1, hb⟩ := hq trivial
        have HB2 := hid hb
        have X2 : Hid (Ext w w2) := hid (X1.out.trans (But.below hx (Nat.le_refl _) X1.out.size))
        have R1 := hid hr1
        clear hx hb hq hr1
        go_wp2_with fail
        refine Calls.mono (H3.out _ HB2.out) ?_
        rintro e w3 ⟨B2, n2, c2, rfl, hx, rfl, hc2, hr2⟩
        have X3 := hid (X2.out.then hx)
        have R2 := hid hr2
        have RM := hid (R1.out.keep hx)
        have HC2 := hid hc2
        clear hx hr2 hc2
        go_wp2_with fail
        refine Calls.mono (H4.out _ _ _ _ _ RM.out R2.out HC2.out) ?_
        rintro e w4 ⟨C, c, rfl, hr3, hx⟩
        have X4 := hid (X3.out.then hx)
        have R3 := hid hr3
        clear hx hr3
        go_wp2
        go_returns
        exact ⟨C, _, c, by rw [HE.out] <;> rfl, by rw [HE.out] <;> rfl, by rw [HE.out]; exact R3.out, X4.out⟩
      · have HE := hid (hR.trans (Pge.cel_3 hhd hmk hdn he3))
        have h3 : ((e3 : Int) != 0) = true := by rw [bne_iff_ne]; omega
        have h4 : ((e3 : Int) == 0) = false := by rw [beq_eq_false_iff_ne]; omega
        clear hs hsz hhd hgood hR hk hm64 ht64 hrl hRR hRd hRs hmk hml hmb hRS hSd hSs hdn hdl he3
        go_enter Tryz.func28, Tryz.ntmps28
        go_wp2_with fail
        refine Calls.mono (H1.out _ HB.out) ?_
        rintro e w1 ⟨a1, a2, a3, rfl, hx, hq⟩
        obtain ⟨rfl, rfl, rfl, hb⟩ := hq trivial
        have HB1 := hid hb
        have X1 : Hid (Ext w w1) := hid (X0.out.trans (But.below hx (Nat.le_refl _) X0.out.size))
        clear hx hb hq
        go_wp2_with fail
        refine Calls.mono (H2.out _ HB1.out) ?_
        rintro e w2 ⟨B1, n1, c1, rfl, hx, hq⟩
        obtain ⟨rfl, hr1, hb⟩ := hq trivial
        have HB2 := hid hb
        have X2 : Hid (Ext w w2) := hid (X1.out.trans (But.below hx (Nat.le_refl _) X1.out.size))
        clear hx hb hq hr1
        go_wp2_with fail
        refine Calls.mono (H3.out _ HB2.out) ?_
        rintro e w3 ⟨B2, n2, c2, rfl, hx, _, hc2, hr2⟩
        have X3 := hid (X2.out.then hx)
        clear hx hr2 hc2
        go_wp2
        go_returns
        exact ⟨none, 0, 0, by rw [HE.out]; rfl, by rw [HE.out]; rfl, by rw [HE.out]; exact fun h => absurd h (by simp [cls]), X3.out⟩
    · have HE := hid (hR.trans (Pge.cel_2 hhd hmk he2))
      have h3 : ((e2 : Int) != 0) = true := by rw [bne_iff_ne]; omega
      have h4 : ((e2 : Int) == 0) = false := by rw [beq_eq_false_iff_ne]; omega
      clear hs hsz hhd hgood hR hk hm64 ht64 hrl hRR hRd hRs hmk hml hmb he2
      go_enter Tryz.func28, Tryz.ntmps28
      go_wp2_with fail
      refine Calls.mono (H1.out _ HB.out) ?_
      rintro e w1 ⟨a1, a2, a3, rfl, hx, hq⟩
      obtain ⟨rfl, rfl, rfl, hb⟩ := hq trivial
      have HB1 := hid hb
      have X1 : Hid (Ext w w1) := hid (X0.out.trans (But.below hx (Nat.le_refl _) X0.out.size))
      clear hx hb hq
      go_wp2_with fail
      refine Calls.mono (H2.out _ HB1.out) ?_
      rintro e w2 ⟨B1, n1, c1, rfl, hx, hq⟩
      have X2 : Hid (Ext w w2) := hid (X1.out.trans (But.below hx (Nat.le_refl _) X1.out.size))
      clear hx hq
      go_wp2
      go_returns
      exact ⟨none, 0, 0, by rw [HE.out]; rfl, by rw [HE.out]; rfl, by rw [HE.out]; exact fun h => absurd h (by simp [cls]), X2.out⟩
  · have HE := hid (hR.trans (Pge.cel_1 hhd he1))
    have h3 : ((e1 : Int) != 0) = true := by rw [bne_iff_ne]; omega
    have h4 : ((e1 : Int) == 0) = false := by rw [beq_eq_false_iff_ne]; omega
    clear hs hsz hhd hgood hR he1
    go_enter Tryz.func28, Tryz.ntmps28
    go_wp2_with fail
    refine Calls.mono (H1.out _ HB.out) ?_
    rintro e w1 ⟨a1, a2, a3, rfl, hx, hq⟩
    have X1 : Hid (Ext w w1) := hid (X0.out.trans (But.below hx (Nat.le_refl _) X0.out.size))
    clear hx hq
    go_wp2
    go_returns
    exact ⟨none, 0, 0, by rw [HE.out]; rfl, by rw [HE.out]; rfl, by rw [HE.out]; exact fun h => absurd h (by simp [cls]), X1.out⟩
def PageOut (R : Nat × List Cel × Nat × Nat) (w : World) (e : Ending) (w' : World) : Prop :=
  ∃ B n c, e = .returned (.tuple #[.int .i64 (R.1 : Nat), .slice B n c, .int .i64 (R.2.2.1 : Nat), .int .i64 (R.2.2.2 : Nat)]) ∧ n = R.2.1.length ∧ Rd w' B (cls R.2.1) ∧ Ext w w'
set_option maxHeartbeats 1600000 in
theorem pgRead_any (S : ByteArray) (w : World) (hs : S.size ≤ 281474976710656) :
    Calls Tryz.prog 12 #[.string S] w (PageOut (Pge.pgr S.data.toList) w) := by
  have HU := hid (unsealed_any S w hs)
  have hlen := Pge.uns_len S.data.toList
  rw [Array.length_toList] at hlen
  have hsz : S.data.size = S.size := rfl
  obtain ⟨b, n, e1, hun⟩ : ∃ b n e1, Pge.uns S.data.toList = (b, n, e1) := ⟨_, _, _, rfl⟩
  rw [hun] at HU hlen
  simp only at HU hlen
  obtain ⟨R, hR⟩ : ∃ R, R = Pge.pgr S.data.toList := ⟨_, rfl⟩
  rw [← hR]
  by_cases he1 : e1 = 0
  · subst he1
    obtain ⟨BB, hBB⟩ : ∃ BB : ByteArray, BB = ⟨b.toArray⟩ := ⟨_, rfl⟩
    have hBd : BB.data.toList = b := by rw [hBB]
    have hBs : BB.size = b.length := by rw [hBB, str_size]
    rw [← hBB] at HU
    have HC := hid (fun wx => pgCells_any BB wx (by omega))
    rw [hBd] at HC
    obtain ⟨kind, l, e2, hce⟩ : ∃ kind l e2, Pge.cel b = (kind, l, e2) := ⟨_, _, _, rfl⟩
    unfold CellsOut at HC
    simp only [hce] at HC
    by_cases he2 : e2 = 0
    · subst he2
      have HE := hid (hR.trans (Pge.pgr_ok hun hce))
      clear hs hlen hsz hun hR hBB hBd hBs hce
      go_enter Tryz.func12, Tryz.ntmps12
      go_wp2_with fail
      refine Calls.mono HU.out ?_
      rintro e w1 ⟨rfl, hx⟩
      have X1 := hid hx
      clear hx
      go_wp2_with fail
      refine Calls.mono (HC.out _) ?_
      rintro e w2 ⟨B, m, c, rfl, hm, hr, hx⟩
      have X2 := hid (X1.out.then hx)
      have HM := hid hm
      have HRR := hid hr
      clear hx hm hr
      go_wp2
      go_returns
      exact ⟨B, m, c, by rw [HE.out] <;> rfl, by rw [HE.out]; exact HM.out, by rw [HE.out]; exact HRR.out, X2.out⟩
    · have HE := hid (hR.trans (Pge.pgr_2 hun hce he2))
      have h3 : ((e2 : Int) != 0) = true := by rw [bne_iff_ne]; omega
      have h4 : ((e2 : Int) == 0) = false := by rw [beq_eq_false_iff_ne]; omega
      clear hs hlen hsz hun hR hBB hBd hBs hce he2
      go_enter Tryz.func12, Tryz.ntmps12
      go_wp2_with fail
      refine Calls.mono HU.out ?_
      rintro e w1 ⟨rfl, hx⟩
      have X1 := hid hx
      clear hx
      go_wp2_with fail
      refine Calls.mono (HC.out _) ?_
      rintro e w2 ⟨B, m, c, rfl, hm, hr, hx⟩
      have X2 := hid (X1.out.then hx)
      clear hx hm hr
      go_wp2
      go_returns
      exact ⟨none, 0, 0, by rw [HE.out]; rfl, by rw [HE.out]; rfl, by rw [HE.out]; exact fun h => absurd h (by simp [cls]), X2.out⟩
  · have HE := hid (hR.trans (Pge.pgr_1 hun he1))
    have h3 : ((e1 : Int) != 0) = true := by rw [bne_iff_ne]; omega
    have h4 : ((e1 : Int) == 0) = false := by rw [beq_eq_false_iff_ne]; omega
    clear hs hlen hsz hun hR he1
    go_enter Tryz.func12, Tryz.ntmps12
    go_wp2_with fail
    refine Calls.mono HU.out ?_
    rintro e w1 ⟨rfl, hx⟩
    have X1 := hid hx
    clear hx
    go_wp2
    go_returns
    exact ⟨none, 0, 0, by rw [HE.out]; rfl, by rw [HE.out]; rfl, by rw [HE.out]; exact fun h => absurd h (by simp [cls]), X1.out⟩
end Go.Proofs.YthgnipangcmanaaGreat
end
section
namespace Hy.Cod
open Go
theorem mny_of {l : List Tx} (h1 : l.length ≤ 64) (h2 : ∀ s ∈ l, s.length ≤ 16) : Dct.mny l = false := by
  unfold Dct.mny
  rw [Bool.or_eq_false_iff, decide_eq_false_iff_not, List.any_eq_false]
  exact ⟨by omega, fun s hs => by have := h2 s hs; simp; omega⟩
end Hy.Cod
end
section
namespace Hy.Cod
open Go
theorem pln_at (l : List Tx) (k : Nat) (h : k < l.length) : pln (l.take (k + 1)) = pln (l.take k) ++ Vary.wr l[k].length ++ l[k] := by
  rw [List.take_succ_eq_append_getElem h, pln_snoc]
theorem pln_le (l : List Tx) (k : Nat) (hl : ∀ s ∈ l, s.length ≤ 16) : (pln (l.take k)).length ≤ 25 * k := by
  have := pln_len (l.take k) (fun s hs => hl s (List.mem_of_mem_take hs))
  rw [List.length_take] at this
  omega
end Hy.Cod
namespace Go.Proofs.YthgnipangcmanaaGreat
open Go.RowKit Hy
theorem cLong1_any (s : ByteArray) (w : World) : Calls Tryz.prog 105 #[.string s] w fun e w' => e = .returned (.bool (decide (16 < s.size))) ∧ w = w' := by
  have hI : decide ((16 : Int) < (s.size : Int)) = decide (16 < s.size) := by simp; omega
  have HI := hid hI
  clear hI
  go_enter Tryz.func105, Tryz.ntmps105
  go_wp2
  go_returns
  exact ⟨ret_bool HI.out, rfl⟩
set_option maxHeartbeats 400000 in
theorem cIndexFunc_any (l : List (List UInt8)) (A : Option Addr) (n cap : Nat) (w : World) (hn : l.length = n) (hr : Rd w A (txs l)) (hnl : n ≤ 140737488355328) :
    Calls Tryz.prog 146 #[.slice A n cap, .func (.func 105) #[] #[]] w fun e w' => (∃ r : Int, e = .returned (.int .i64 r) ∧ decide (0 ≤ r) = !Front.fitB l) ∧ w = w' := by
  have HN := hid hn
  have HA := hid hr
  have HF := hid (Front.fitB_iff l)
  clear hr hn
  go_enter Tryz.func146, Tryz.ntmps146
  go_wp2
  go_loop [5, 8] (fun _ c => ∃ k : Nat, k ≤ n ∧ c = .int .i64 k ∧ Hid (∀ i (h : i < l.length), i < k → l[i].length ≤ 16)) (fun _ c => n - (intOf c).toNat)
  case atStart => exact ⟨0, Nat.zero_le _, rfl, hid fun i h h2 => absurd h2 (Nat.not_lt_zero _)⟩
  case round =>
    obtain ⟨k, hk, rfl, HT⟩ := hrel
    by_cases hlt : k < n
    · have hka : k < l.length := by rw [HN.out]; exact hlt
      obtain ⟨b1, o1, e1, l1, c1⟩ := HA.out.texts k hka
      subst e1
      have d1 := c1 k hka
      obtain ⟨S, hS⟩ : ∃ S : ByteArray, S = ⟨l[k].toArray⟩ := ⟨_, rfl⟩
      have hz : S.size = l[k].length := by rw [hS, str_size]
      rw [← hS] at d1
      have HZ := hid hz
      clear c1 hS hz
      by_cases h16 : S.size ≤ 16
      · have HT2 : Hid (∀ i (h : i < l.length), i < k + 1 → l[i].length ≤ 16) := hid fun i h h2 => by
          rcases Nat.lt_or_ge i k with h3 | h3
          · exact HT.out i h h3
          · have : i = k := by omega
            subst this
            rw [← HZ.out]; exact h16
        have C : Hid (Calls Tryz.prog 105 #[.string S] w fun e w' => e = .returned (.bool false) ∧ w = w') := by
          have := cLong1_any S w
          rw [decide_eq_false (by omega)] at this
          exact hid this
        clear HZ hka h16
        go_wp2_with (go_at_call 105; refine C.out.mono ?_; rintro e w2 ⟨rfl, rfl⟩)
        go_round
        case rel => exact ⟨k + 1, by omega, by go_num, HT2⟩
        case measure => simp [intOf]; omega
      · have hf : Front.fitB l = false := by
          rw [← Bool.not_eq_true, HF.out]
          intro h
          have := h l[k] (List.getElem_mem hka)
          rw [← HZ.out] at this; omega
        have HFF := hid hf
        have C : Hid (Calls Tryz.prog 105 #[.string S] w fun e w' => e = .returned (.bool true) ∧ w = w') := by
          have := cLong1_any S w
          rw [decide_eq_true (by omega)] at this
          exact hid this
        clear HZ hka h16 hf
        go_wp2_with (go_at_call 105; refine C.out.mono ?_; rintro e w2 ⟨rfl, rfl⟩)
        go_returns
        exact ⟨⟨_, rfl, by rw [HFF.out]; simp⟩, rfl⟩
    · obtain rfl : k = n := by omega
      have hf : Front.fitB l = true := HF.out.2 fun s hs => by
        obtain ⟨i, hi, rfl⟩ := List.getElem_of_mem hs
        exact HT.out i hi (by rw [← HN.out]; exact hi)
      have HFF := hid hf
      clear hf
      go_wp2
      go_returns
      exact ⟨⟨_, rfl, by rw [HFF.out]; rfl⟩, rfl⟩
theorem cContainsFunc_any (l : List (List UInt8)) (A : Option Addr) (n cap : Nat) (w : World) (hn : l.length = n) (hr : Rd w A (txs l)) (hnl : n ≤ 140737488355328) :
    Calls Tryz.prog 104 #[.slice A n cap, .func (.func 105) #[] #[]] w fun e w' => e = .returned (.bool (!Front.fitB l)) ∧ w = w' := by
  have C := hid (cIndexFunc_any l A n cap w hn hr hnl)
  clear hn hr
  go_enter Tryz.func104, Tryz.ntmps104
  go_wp2_with (go_at_call 146; refine C.out.mono ?_; rintro e w2 ⟨⟨r, rfl, hr⟩, rfl⟩; have HR := hid hr; clear hr)
  go_returns
  exact ⟨by rw [← HR.out]; rfl, rfl⟩
theorem cLong_any (l : List (List UInt8)) (A : Option Addr) (n cap : Nat) (w : World) (hn : l.length = n) (hr : Rd w A (txs l)) (hnl : n ≤ 140737488355328) :
    Calls Tryz.prog 72 #[.slice A n cap] w fun e w' => e = .returned (.bool (Dct.mny l)) ∧ w = w' := by
  have C := hid (cContainsFunc_any l A n cap w hn hr hnl)
  have HM := hid (Dct.mny_eq l)
  rw [hn] at HM
  rw [HM.out]
  by_cases h64 : n ≤ 64
  · have h64I : (n : Int) ≤ 64 := by omega
    rw [decide_eq_true h64]
    clear hn hr hnl HM h64
    generalize Front.fitB l = f at *
    go_enter Tryz.func72, Tryz.ntmps72
    go_wp2_with fail
    refine Calls.mono C.out ?_
    rintro e _ ⟨rfl, rfl⟩
    go_wp2
    go_returns
    exact ⟨by simp; intro h; omega, rfl⟩
  · have h64I : (64 : Int) < (n : Int) := by omega
    rw [decide_eq_false h64]
    clear hn hr hnl HM h64 C
    go_enter Tryz.func72, Tryz.ntmps72
    go_wp2
    go_returns
    exact ⟨rfl, rfl⟩
set_option maxRecDepth 100000 in
set_option maxHeartbeats 1600000 in
theorem texts_any (l : List (List UInt8)) (A : Option Addr) (n cap k : Nat) (w : World) (hn : l.length = n) (hr : Rd w A (txs l)) (hf : ∀ s ∈ l, s.length ≤ 16) (hnl : n ≤ 64) (h1 : 5 ≤ k) (h4 : k ≤ 7) :
    Calls Tryz.prog 74 #[.slice A n cap, .int .i64 k] w fun e w' => e = .returned (.string ⟨(Cod.tx l k).toArray⟩) ∧ Ext w w' := by
  have hfb := (Front.fitB_iff l).2 hf
  obtain rfl | rfl | rfl : k = 5 ∨ k = 6 ∨ k = 7 := by omega
  · rw [Cod.tx5, show ((5 : Nat) : Int) = 5 from rfl]
    have HN := hid hn
    have HA := hid hr
    have HF := hid hf
    have HPA := hid (Cod.pln_at l)
    have HPL := hid (fun j => Cod.pln_le l j hf)
    have HPE := hid (Cod.pln_nil)
    have HNL := hid hnl
    clear hn hr hf hfb h1 h4 hnl
    go_enter Tryz.func74, Tryz.ntmps74
    go_wp2
    go_loopw [5, 7, 16] (fun v _ c wr => ∃ (k : Nat) (E : List UInt8), k ≤ n ∧ c = .int .i64 k ∧ Hid (E = Cod.pln (l.take k)) ∧ E.length ≤ 25 * k ∧ Hid (wr.ownsRow w.heap.size 5 1 v E.length (u8s E)) ∧ Hid (Ext w wr)) (fun _ _ c _ => n - (intOf c).toNat)
    case atStart => exact ⟨0, [], Nat.zero_le _, rfl, hid (by rw [List.take_zero, HPE.out]), Nat.le_refl _, hid (World.ownsRow_nil _ _ _ _), hid (ext_refl _)⟩
    case round =>
      obtain ⟨k, E, hk, rfl, HE, hE, HO, HX⟩ := hrel
      by_cases hlt : k < n
      · have hka : k < l.length := by rw [HN.out]; exact hlt
        obtain ⟨b1, o1, e1, l1, c1⟩ := HA.out.texts k hka
        subst e1
        have d1 := (HX.out.cell (p := ⟨b1, o1 + k, none⟩) l1).trans (c1 k hka)
        have hx := HF.out l[k] (List.getElem_mem hka)
        have HS := HPA.out k hka
        have hle := HPL.out (k + 1)
        rw [HS, ← HE.out] at hle
        rw [← HE.out] at HS
        generalize l[k] = s at *
        obtain ⟨S, hS⟩ : ∃ S : ByteArray, S = ⟨s.toArray⟩ := ⟨_, rfl⟩
        have hSz : S.size = s.length := by rw [hS, str_size]
        have hSI : (S.size : Int) ≤ 16 := by omega
        have hwu : IntKind.u64.wrap (S.size : Int) = (S.size : Int) := by rw [IntKind.wrap_u64]; omega
        obtain ⟨p1, hp1⟩ : ∃ p1, p1 = Vary.wr s.length := ⟨_, rfl⟩
        have CW := hid (fun wx => write_any s.length wx (by omega))
        rw [← hp1, ← hSz] at CW
        rw [← hp1] at HS hle
        have HSV := hid (fun wx => show Src Tryz.prog 1 9 (.string S) s.length (u8s s) wx from by rw [hS]; exact Src.ofList Tryz.underlying9 s)
        have hp1l : p1.length ≤ 9 := by rw [hp1, Vary.wr_len]; have := Vary.beh_le8 s.length; omega
        simp only [List.length_append] at hle
        rw [← hS] at d1
        have HSS := hid HS
        have HKL := hid hle
        have hk64 := HNL.out
        clear c1 HS hS hp1 hSz hka
        go_wp2_with (first
          | (go_at_call 19; refine Calls.mono (CW.out _) ?_; rintro e w2 ⟨rfl, hx2⟩; have HB2 := hid (HX.out.then hx2); have HO2 := hid (own_ext HO.out hx2); clear hx2)
          | (at_builtin; refine wpList_app rfl (.tmp 20) (.tmp 24) rowU8 rfl _ E.length _ rfl HO2.out _ p1.length (u8s p1) rfl (Src.ofList Tryz.underlying9 p1) (by unfold maxLen; omega) (by omega) HB2.out.size ?_; intro v3 w3 hown3 hg3 ha3 hb3; have HB3 : Hid (Ext w w3) := hid (HB2.out.trans hb3); have HO3 := hid hown3; clear hown3 hg3 ha3 hb3)
          | (at_builtin; refine wpList_app rfl (.tmp 25) (.tmp 26) rowU8 rfl _ (E.length + p1.length) _ rfl HO3.out _ s.length (u8s s) rfl (HSV.out _) (by unfold maxLen; omega) (by omega) HB3.out.size ?_; intro v5 w5 hown5 hg5 ha5 hb5; have HB5 : Hid (Ext w w5) := hid (HB3.out.trans hb5); have HO5 := hid hown5; clear hown5 hg5 ha5 hb5))
        go_roundw
        case rel =>
          refine ⟨k + 1, E ++ p1 ++ s, by omega, by go_num, hid HSS.out.symm, by simp only [List.length_append]; exact HKL.out, hid ?_, HB5⟩
          simp only [List.length_append, u8s_app]; exact HO5.out
        case measure => simp [intOf]; omega
      · obtain rfl : k = n := by omega
        have hs := run_str_own (w := wr) Tryz.underlying42 Tryz.underlying5 Tryz.underlying9 HO.out
        have HE2 := hid (show E = Cod.pln l by rw [HE.out, List.take_of_length_le (by rw [HN.out]; exact Nat.le_refl _)])
        go_wp2
        go_returns
        exact ⟨by rw [← HE2.out]; rfl, HX.out⟩
  · have hlen := Cod.tx_len l 6 (by omega) hf
    rw [Cod.tx6, Cod.bok_eq] at hlen ⊢
    simp only [List.length_append] at hlen
    have HO := hid (dOf_any l A n cap w hn hr (fun e => by subst e; rcases Nat.eq_zero_or_pos n with h | h; exact h; obtain ⟨_, _, h2, _⟩ := hr (by rw [txs_len]; omega); cases h2) (by omega))
    rw [Dct.of_ok (Cod.mny_of (by omega) hf)] at HO
    simp only at HO
    have hbl := Dct.bk_len l
    have hcl := Dct.cds_len l
    have hcf := Cod.cds_fit l (by omega)
    have hbf := Cod.bk_fit l hf
    obtain ⟨B, hB⟩ : ∃ B, B = Dct.bk l := ⟨_, rfl⟩
    obtain ⟨C, hC⟩ : ∃ C, C = Dct.cds l := ⟨_, rfl⟩
    rw [← hB] at HO hbl hbf hlen ⊢
    rw [← hB] at hcf
    rw [← hC] at HO hcl hcf hlen ⊢
    obtain ⟨b, hb⟩ : ∃ b, b = B.length := ⟨_, rfl⟩
    rw [← hb] at HO hbl hcf hlen ⊢
    have hlw := Cod.lw_le (n := b) (by omega)
    have HL := hid (fun wx => lastWidth_any b wx (by omega))
    have HV := hid (fun wx => write_any b wx (by omega))
    have HR := hid (fun A c wx h => braw_any C A n c (Cod.lw b) wx (by rw [hcl, hn]) h hcf (by omega) (by omega))
    have HFR := hid (fun A c wx h => raw_any B A b c wx hb.symm h (by omega) ((Front.fitB_iff B).2 hbf))
    obtain ⟨lwb, hlwb⟩ : ∃ q, q = Cod.lw b := ⟨_, rfl⟩
    rw [← hlwb] at HL HR hlen ⊢
    obtain ⟨X1, hX1⟩ : ∃ S : ByteArray, S = ⟨(Vary.wr b).toArray⟩ := ⟨_, rfl⟩
    obtain ⟨X2, hX2⟩ : ∃ S : ByteArray, S = ⟨(Bits.packed C lwb).toArray⟩ := ⟨_, rfl⟩
    obtain ⟨X3, hX3⟩ : ∃ S : ByteArray, S = ⟨(Front.bytes B).toArray⟩ := ⟨_, rfl⟩
    have hz1 : X1.size ≤ 2000 := by rw [hX1, str_size]; omega
    have hz2 : X2.size ≤ 2000 := by rw [hX2, str_size]; omega
    have hz3 : X3.size ≤ 2000 := by rw [hX3, str_size]; omega
    have HVV := hid (show X1 ++ X2 ++ X3 = ⟨(Vary.wr b ++ Bits.packed C lwb ++ Front.bytes B).toArray⟩ by rw [hX1, hX2, hX3, str_app, str_app])
    rw [← hX1] at HV
    rw [← hX2] at HR
    rw [← hX3] at HFR
    have HCL := hid (show C.length = n by rw [hcl, hn])
    have hbI : (b : Int) ≤ 64 := by omega
    have hwu : IntKind.u64.wrap (b : Int) = (b : Int) := by rw [IntKind.wrap_u64]; omega
    clear hn hr hf hfb h1 h4 hnl hlen hbl hcl hcf hbf hB hC hb hlw hlwb hX1 hX2 hX3
    go_enter Tryz.func74, Tryz.ntmps74
    go_wp2_with fail
    refine Calls.mono HO.out ?_
    rintro e w1 ⟨B1, cb, C1, cc, rfl, hrb, hrc, hx⟩
    have HRB := hid hrb
    have HRC := hid hrc
    have Xp := hid hx
    clear hrb hrc hx
    rw [HCL.out]
    go_wp2_with fail
    refine Calls.mono (HV.out _) ?_
    rintro e w2 ⟨rfl, hx⟩
    replace Xp := hid (Xp.out.then hx)
    replace HRB := hid (HRB.out.keep hx)
    replace HRC := hid (HRC.out.keep hx)
    clear hx
    go_wp2_with fail
    refine Calls.mono (HL.out _) ?_
    rintro e w3 ⟨rfl, hx⟩
    replace Xp := hid (Xp.out.then hx)
    replace HRB := hid (HRB.out.keep hx)
    replace HRC := hid (HRC.out.keep hx)
    clear hx
    go_wp2_with fail
    refine Calls.mono (HR.out _ _ _ HRC.out) ?_
    rintro e w4 ⟨rfl, hx⟩
    replace Xp := hid (Xp.out.then hx)
    replace HRB := hid (HRB.out.keep hx)
    clear hx
    go_wp2_with fail
    refine Calls.mono (HFR.out _ _ _ HRB.out) ?_
    rintro e w5 ⟨rfl, hx⟩
    replace Xp := hid (Xp.out.then hx)
    clear hx
    go_wp2
    go_returns
    exact ⟨by rw [← HVV.out]; rfl, Xp.out⟩
  · rw [Cod.tx7]
    have HC := hid (raw_any l A n cap w hn hr hnl hfb)
    clear hn hr hf hfb h1 h4 hnl
    go_enter Tryz.func74, Tryz.ntmps74
    go_wp2_with fail
    refine Calls.mono HC.out ?_
    rintro e w1 ⟨rfl, hx⟩
    go_wp2
    go_returns
    exact ⟨rfl, hx⟩
set_option maxHeartbeats 800000 in
theorem bestT_any (l : List (List UInt8)) (A : Option Addr) (n cap : Nat) (w : World) (hn : l.length = n) (hr : Rd w A (txs l)) (hf : ∀ s ∈ l, s.length ≤ 16) (hnl : n ≤ 64) :
    Calls Tryz.prog 73 #[.slice A n cap, .int .i64 5, .int .i64 7, .func (.func 74) #[] #[]] w fun e w' => e = .returned (.string ⟨(Cod.up (Cod.tx l) 5 2).toArray⟩) ∧ Ext w w' := by
  have HC := hid (fun (k : Nat) (h1 : 5 ≤ k) (h4 : k ≤ 7) wx (hx : Ext w wx) => texts_any l A n cap k wx hn (hr.keep hx) hf hnl h1 h4)
  have HLN := hid (fun k => Cod.tx_len l k (by omega) hf)
  have HT := hid (fun (k : Nat) (hk : k ≤ 7) wx => tagged_any k ⟨(Cod.tx l k).toArray⟩ wx (by omega) (by rw [str_size]; have := HLN.out k; omega))
  have HUP := hid (fun j => Cod.up_len (Cod.tx l) 5 j 2000 HLN.out)
  have HS0 := hid (Cod.up_zero (Cod.tx l) 5)
  have HSS := hid (fun j => Cod.up_succ (Cod.tx l) 5 j)
  have HTG := hid (fun k => Cod.tg_str (Cod.tx l) k ⟨(Cod.tx l k).toArray⟩ rfl)
  have HTL := hid (fun k => Cod.tg_len (Cod.tx l) k)
  generalize Cod.tx l = f at *
  clear hn hr hf hnl
  go_enter Tryz.func73, Tryz.ntmps73
  go_wp2_with fail
  refine Calls.mono (HC.out 5 (by decide) (by decide) _ (ext_refl _)) ?_
  rintro e w1 ⟨rfl, hx⟩
  have X1 := hid hx
  clear hx
  go_wp2_with fail
  refine Calls.mono (HT.out 5 (by decide) _) ?_
  rintro e w2 ⟨rfl, hx⟩
  have X2 := hid (X1.out.then hx)
  clear hx
  rw [HTG.out, ← HS0.out]
  go_wp2
  go_loopw [9, 10, 11] (fun v c _ wr => ∃ j : Nat, j ≤ 2 ∧ c = .int .i64 ((j : Int) + 6) ∧ v = .string ⟨(Cod.up f 5 j).toArray⟩ ∧ Hid (Ext w wr)) (fun _ c _ _ => 7 + 1 - (intOf c).toNat)
  case atStart => exact ⟨0, Nat.zero_le _, rfl, rfl, X2⟩
  case round =>
    obtain ⟨j, hj, rfl, rfl, HX⟩ := hrel
    by_cases hlt : j < 2
    · have hc1 : (j : Int) + 6 = ((5 + j + 1 : Nat) : Int) := by omega
      have hjI : ((5 + j + 1 : Nat) : Int) ≤ 7 := by omega
      have C1 := hid (HC.out (5 + j + 1) (by omega) (by omega))
      have C2 := hid (HT.out (5 + j + 1) (by omega))
      have G2 := hid (HTG.out (5 + j + 1))
      have U1 := hid (HSS.out j)
      have l1 := HUP.out j
      have l2 := HLN.out (5 + j + 1)
      have l3 := HTL.out (5 + j + 1)
      have hn1 : ((5 + j + 1 : Nat) : Int) + 1 = ((j + 1 : Nat) : Int) + 6 := by omega
      rw [hc1]
      obtain ⟨S, hS⟩ : ∃ S : ByteArray, S = ⟨(f (5 + j + 1)).toArray⟩ := ⟨_, rfl⟩
      obtain ⟨G, hG⟩ : ∃ S : ByteArray, S = ⟨(Cod.tg f (5 + j + 1)).toArray⟩ := ⟨_, rfl⟩
      obtain ⟨U, hU⟩ : ∃ S : ByteArray, S = ⟨(Cod.up f 5 j).toArray⟩ := ⟨_, rfl⟩
      have HGU := hid hG
      have HUU := hid hU
      have g1 : G.size = (Cod.tg f (5 + j + 1)).length := by rw [hG, str_size]
      have g2 : U.size = (Cod.up f 5 j).length := by rw [hU, str_size]
      have g3 : G.size ≤ 2001 := by omega
      have g4 : U.size ≤ 2001 := by omega
      rw [← hS] at C1
      rw [← hS] at C2
      rw [← hG] at G2
      rw [← hU]
      rw [← g1, ← g2] at U1
      have hwr : IntKind.i64.wrap (((5 + j + 1 : Nat) : Int) + 1) = ((5 + j + 1 : Nat) : Int) + 1 := by rw [IntKind.wrap_i64]; omega
      have HJ := hid (show j + 1 ≤ 2 by omega)
      have HN1 := hid hn1
      clear hS hG hU g1 g2 l1 l2 l3 hc1 hn1 hj
      generalize ((5 + j + 1 : Nat) : Int) = q at *
      by_cases hs : G.size < U.size
      · have hsI : (G.size : Int) < (U.size : Int) := by omega
        rw [if_pos hs] at U1
        clear hs
        go_wp2_with fail
        refine Calls.mono (C1.out _ HX.out) ?_
        rintro e w3 ⟨rfl, hx⟩
        have X3 := hid (HX.out.then hx)
        clear hx
        go_wp2_with fail
        refine Calls.mono (C2.out _) ?_
        rintro e w4 ⟨rfl, hx⟩
        have X4 := hid (X3.out.then hx)
        clear hx
        rw [G2.out]
        go_wp2
        go_roundw
        case rel => exact ⟨j + 1, HJ.out, by rw [HN1.out], by rw [U1.out, ← HGU.out], X4⟩
        case measure => simp [intOf]; have := HN1.out; have := HJ.out; omega
      · have hsI : ¬ (G.size : Int) < (U.size : Int) := by omega
        rw [if_neg hs] at U1
        clear hs
        go_wp2_with fail
        refine Calls.mono (C1.out _ HX.out) ?_
        rintro e w3 ⟨rfl, hx⟩
        have X3 := hid (HX.out.then hx)
        clear hx
        go_wp2_with fail
        refine Calls.mono (C2.out _) ?_
        rintro e w4 ⟨rfl, hx⟩
        have X4 := hid (X3.out.then hx)
        clear hx
        rw [G2.out]
        go_wp2
        go_roundw
        case rel => exact ⟨j + 1, HJ.out, by rw [HN1.out], by rw [U1.out, ← HUU.out], X4⟩
        case measure => simp [intOf]; have := HN1.out; have := HJ.out; omega
    · obtain rfl : j = 2 := by omega
      have hne : ¬ (((2 : Nat) : Int) + 6 ≤ 7) := by decide
      clear hlt hj
      go_wp2
      go_returns
      exact ⟨rfl, HX.out⟩
theorem bestTexts_any (l : List (List UInt8)) (A : Option Addr) (n cap : Nat) (w : World) (hn : l.length = n) (hr : Rd w A (txs l)) (hnl : n ≤ 140737488355328) :
    Calls Tryz.prog 47 #[.slice A n cap] w fun e w' => e = .returned (.tuple #[.string ⟨(Cod.btx l).1.toArray⟩, .int .i64 ((Cod.btx l).2 : Nat)]) ∧ Ext w w' := by
  unfold Cod.btx
  have CL := hid (cLong_any l A n cap w hn hr hnl)
  by_cases hm : Dct.mny l = true
  · rw [if_pos hm]
    rw [hm] at CL
    clear hn hr hnl hm
    go_enter Tryz.func47, Tryz.ntmps47
    go_wp2_with fail
    refine Calls.mono CL.out ?_
    rintro e _ ⟨rfl, rfl⟩
    go_wp2
    go_returns
    exact ⟨rfl, ext_refl _⟩
  · rw [if_neg hm]
    obtain ⟨g1, g2⟩ := Dct.mny_false (by simpa using hm)
    rw [show Dct.mny l = false by simpa using hm] at CL
    have HC := hid (bestT_any l A n cap w hn hr g2 (by omega))
    clear hn hr hnl hm g1 g2
    go_enter Tryz.func47, Tryz.ntmps47
    go_wp2_with fail
    refine Calls.mono CL.out ?_
    rintro e _ ⟨rfl, rfl⟩
    go_wp2_with fail
    refine Calls.mono HC.out ?_
    rintro e w1 ⟨rfl, hx⟩
    have X1 := hid hx
    clear hx
    go_wp2
    go_returns
    exact ⟨rfl, X1.out⟩
end Go.Proofs.YthgnipangcmanaaGreat
end
section
namespace Go.Proofs.YthgnipangcmanaaGreat
open Go.RowKit Hy
set_option maxHeartbeats 1600000 in
theorem bytes_any (l : List Bool) (A : Option Addr) (n cap : Nat) (w : World) (hn : l.length = n) (hr : Rd w A (bls l)) (hnl : n ≤ 17592186044416) :
    Calls Tryz.prog 20 #[.slice A n cap] w fun e w' => e = .returned (.tuple #[.string ⟨(Bits.pk (Mrk.ones l) 1).1.toArray⟩, .int .i64 (Bits.pk (Mrk.ones l) 1).2]) ∧ Ext w w' := by
  have HN := hid hn
  have HA := hid hr
  have HL := hid hnl
  have hnI : (n : Int) ≤ 17592186044416 := by omega
  have HPK := hid (fun (B : Option Addr) (c : Nat) (wr : World) (hrd : Rd wr B (u64s (Mrk.ones l))) => pack_any (Mrk.ones l) B n c 1 wr (by rw [Mrk.ones_len, hn]) hrd (Mrk.ones_lt l) (by omega))
  obtain ⟨P, hP⟩ : ∃ P, P = Bits.pk (Mrk.ones l) 1 := ⟨_, rfl⟩
  rw [← hP] at HPK ⊢
  clear hn hr hnl hP
  go_enter Tryz.func20, Tryz.ntmps20
  go_wp2
  go_loopw [4, 6, 7, 10] (fun x _ _ c wr => ∃ k : Nat, k ≤ n ∧ c = .int .i64 k ∧ wr.ownsRow w.heap.size 34 1 x k (u64s (Mrk.ones (l.take k))) ∧ Ext w wr) (fun _ _ _ c _ => n - (intOf c).toNat)
  case atStart => exact ⟨0, Nat.zero_le _, rfl, World.ownsRow_nil _ _ _ _, ext_refl _⟩
  case round =>
    obtain ⟨k, hk, rfl, hown, X⟩ := hrel
    by_cases hlt : k < n
    · have hka : k < l.length := by rw [HN.out]; exact hlt
      obtain ⟨b1, o1, e1, l1, c1⟩ := HA.out.bool (by omega)
      subst e1
      have d0 := (X.cell (p := ⟨b1, o1 + k, none⟩) l1).trans (c1 k hka)
      have HE := hid (Mrk.ones_take l k hka)
      have HO := hid hown
      generalize l[k] = c at *
      generalize Mrk.ones (l.take k) = D at *
      clear c1 hka hown
      cases c with
      | true =>
        go_wp2_with (at_builtin; go_loud (refine wpList_app rfl (.tmp 15) (.tmp 17) rowU64 rfl _ k (u64s D) rfl (own_ext HO.out (Ext.new (ext_refl _) _)) _ 1 (u64s [1]) rfl (Src.rd Tryz.underlying58 _ 1 1 _ rfl (rd_lit rfl rfl) (u64s_one _) (fun h => by cases h)) (by have := HL.out; simp only [maxLen]; omega) (by have := HL.out; omega) (by have := X.size; simp; omega) ?_; intro v' w5 hown5 hgrow hat hbel))
        go_roundw
        case rel => exact ⟨k + 1, by omega, by go_num, by rw [HE.out, u64s_app]; exact hown5, (Ext.new X _).trans hbel⟩
        case measure => simp [intOf]; omega
      | false =>
        go_wp2_with (at_builtin; go_loud (refine wpList_app rfl (.tmp 15) (.tmp 17) rowU64 rfl _ k (u64s D) rfl (own_ext HO.out (Ext.new (ext_refl _) _)) _ 1 (u64s [0]) rfl (Src.rd Tryz.underlying58 _ 1 1 _ rfl (rd_lit rfl rfl) (u64s_one _) (fun h => by cases h)) (by have := HL.out; simp only [maxLen]; omega) (by have := HL.out; omega) (by have := X.size; simp; omega) ?_; intro v' w5 hown5 hgrow hat hbel))
        go_roundw
        case rel => exact ⟨k + 1, by omega, by go_num, by rw [HE.out, u64s_app]; exact hown5, (Ext.new X _).trans hbel⟩
        case measure => simp [intOf]; omega
    · obtain rfl : k = n := by omega
      obtain ⟨B, c, rfl, hrd, hB, hc, hcm⟩ := Rd.owned hown
      have e : l.take k = l := List.take_of_length_le (by rw [HN.out]; exact Nat.le_refl _)
      rw [e] at hrd
      have HP := hid (HPK.out B c wr hrd)
      clear hown hrd hB hc hcm e
      go_wp2_with fail
      refine Calls.mono HP.out ?_
      rintro e w1 ⟨rfl, hx⟩
      have HX := hid hx
      clear hx
      go_wp2
      go_returns
      exact ⟨rfl, X.then HX.out⟩
end Go.Proofs.YthgnipangcmanaaGreat
end
