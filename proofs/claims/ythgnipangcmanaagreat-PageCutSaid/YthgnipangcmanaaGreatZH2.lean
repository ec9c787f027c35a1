/- Texts of this claim, put together: walks and plain laws. -/
import Derived.Test.YthgnipangcmanaaGreatZH1
import Derived.Test.YthgnipangcmanaaGreatZV1
import Derived.Test.YthgnipangcmanaaGreatZB1
section
namespace Go.Proofs.YthgnipangcmanaaGreat
open Go.RowKit Hy
theorem HyRd.keep {g : Nat} {w w' : World} {s : List UInt8} {wd want : Nat} {o : List Nat} {v : Value} (h : HyRd g w s wd want o v) (hx : Ext w w') : HyRd g w' s wd want o v := ⟨h.1.keep hx, own_ext h.2 hx⟩
def HyPart (g : Nat) (s : List UInt8) (wd want : Nat) (o : List Nat) (w : World) (e : Ending) (w' : World) : Prop :=
  e = .returned (.int .i64 ((Hyb.stp wd (want - o.length) s).1 : Nat)) ∧ Below g w w' ∧ ((Hyb.stp wd (want - o.length) s).1 = 0 → ∃ v, HyRd g w' (s.drop (Hyb.stp wd (want - o.length) s).2.2) wd want (o ++ (Hyb.stp wd (want - o.length) s).2.1) v)
set_option maxRecDepth 100000 in
set_option maxHeartbeats 1600000 in
theorem hyPart_bad (s : List UInt8) (wd want : Nat) (o : List Nat) (vo : Value) (g : Nat) (w : World) (a k e : Nat) (hrd : Vary.rd s = (a, k, e)) (he : e ≠ 0) (h : HyRd g w s wd want o vo) (ho : o.length < want) (hwt : want ≤ 64) :
    Calls Tryz.prog 155 #[.pointer (some ⟨g, 0, none⟩)] w (HyPart g s wd want o w) := by
  obtain ⟨hB, hO⟩ := h
  have HO := hid hO
  obtain ⟨XX, hXX⟩ : ∃ XX : ByteArray, XX = ⟨s.toArray⟩ := ⟨_, rfl⟩
  have hXs : XX.size = s.length := by rw [hXX, str_size]
  have HXd := hid (show XX.data.toList = s by rw [hXX])
  rw [← hXX] at hB
  have HB := hid hB
  have hc0 := hB.cell 0
  have hf0 := hB.frozen 0
  have HLT := hid hB.lt
  obtain ⟨lf, hlf⟩ : ∃ lf, lf = want - o.length := ⟨_, rfl⟩
  have hlfI : (want : Int) - (o.length : Int) = (lf : Int) := by omega
  have hlf1 : 1 ≤ lf := by omega
  have hlf64 : lf ≤ 64 := by omega
  unfold HyPart
  rw [← hlf]
  have CR : ∀ wx : World, Hid (Calls Tryz.prog 52 #[.string XX] wx fun e' w' => e' = .returned (.tuple #[.int .u64 a, .int .i64 k, .int .i64 e]) ∧ Ext wx w') := fun wx => by
    have := read_any XX wx
    rw [HXd.out, hrd] at this
    exact hid this
  rw [Hyb.stp_bad hrd he]
  have h3 : ((e : Int) != 0) = true := by rw [bne_iff_ne]; omega
  have h4 : ((e : Int) == 0) = false := by rw [beq_eq_false_iff_ne]; omega
  have HE := hid he
  clear hB hO hXX hlf hlf1 hlf64 hrd ho hwt he
  go_enter Tryz.func155, Tryz.ntmps155
  go_wp2_with fail
  refine Calls.mono (CR _).out ?_
  rintro e w1 ⟨rfl, hx⟩
  go_wp2
  go_returns
  exact ⟨rfl, hx.mono (Nat.le_of_lt HLT.out), fun h => absurd h HE.out⟩
set_option maxRecDepth 100000 in
set_option maxHeartbeats 1600000 in
theorem hyPart_low0 (s : List UInt8) (wd want : Nat) (o : List Nat) (vo : Value) (g : Nat) (w : World) (a k e : Nat) (hrd : Vary.rd s = (a, k, e)) (he : e = 0) (hp : a % 2 = 0) (hlow : a < 2) (h : HyRd g w s wd want o vo) (ho : o.length < want) (hwt : want ≤ 64) :
    Calls Tryz.prog 155 #[.pointer (some ⟨g, 0, none⟩)] w (HyPart g s wd want o w) := by
  obtain ⟨hB, hO⟩ := h
  have HO := hid hO
  obtain ⟨XX, hXX⟩ : ∃ XX : ByteArray, XX = ⟨s.toArray⟩ := ⟨_, rfl⟩
  have hXs : XX.size = s.length := by rw [hXX, str_size]
  have HXd := hid (show XX.data.toList = s by rw [hXX])
  rw [← hXX] at hB
  have HB := hid hB
  have hc0 := hB.cell 0
  have hf0 := hB.frozen 0
  have HLT := hid hB.lt
  obtain ⟨lf, hlf⟩ : ∃ lf, lf = want - o.length := ⟨_, rfl⟩
  have hlfI : (want : Int) - (o.length : Int) = (lf : Int) := by omega
  have hlf1 : 1 ≤ lf := by omega
  have hlf64 : lf ≤ 64 := by omega
  unfold HyPart
  rw [← hlf]
  have CR : ∀ wx : World, Hid (Calls Tryz.prog 52 #[.string XX] wx fun e' w' => e' = .returned (.tuple #[.int .u64 a, .int .i64 k, .int .i64 e]) ∧ Ext wx w') := fun wx => by
    have := read_any XX wx
    rw [HXd.out, hrd] at this
    exact hid this
  subst he
  obtain ⟨r1, r2, r3, r4, _⟩ := Vary.rd_ok (s := s) (by rw [hrd])
  rw [hrd] at r1 r2 r3 r4
  simp only at r1 r2 r3 r4
  have hT := fun wx : World => run_from (P := Tryz.prog) (w := wx) Tryz.underlying9 XX .i64 k (by omega)
  rw [HXd.out] at hT
  obtain ⟨XD, hXD⟩ : ∃ XD : ByteArray, XD = ⟨(s.drop k).toArray⟩ := ⟨_, rfl⟩
  rw [← hXD] at hT
  have HXD := hid hXD
  have haI : (a : Int) ≤ 18446744073709551615 := by omega
  obtain ⟨q, hq⟩ : ∃ q, q = a / 2 := ⟨_, rfl⟩
  have hq1 : (a : Int) / 2 = (q : Int) := by omega
  have hq2 : (a : Int).tdiv 2 = (q : Int) := by rw [Int.tdiv_eq_ediv_of_nonneg (by omega)]; omega
  have hqI : (q : Int) ≤ 9223372036854775807 := by omega
  obtain ⟨mo, hmo⟩ : ∃ mo, mo = (lf + 7) / 8 := ⟨_, rfl⟩
  have hmo1 : ((lf : Int) + 8 - 1) / 8 = (mo : Int) := by omega
  have hmo2 : ((lf : Int) + 8 - 1).tdiv 8 = (mo : Int) := by rw [Int.tdiv_eq_ediv_of_nonneg (by omega)]; omega
  have hmo3 : ((lf : Int) + 7) / 8 = (mo : Int) := by omega
  have hmo4 : ((lf : Int) + 7).tdiv 8 = (mo : Int) := by rw [Int.tdiv_eq_ediv_of_nonneg (by omega)]; omega
  have hmoI : (mo : Int) ≤ 8 := by omega
  have hlfI2 : (lf : Int) ≤ 64 := by omega
  have hkI : (k : Int) ≤ 9 := by omega
  have hu1 : IntKind.u64.wrap (mo : Int) = (mo : Int) := by rw [IntKind.wrap_u64]; omega
  have hu2 : IntKind.u64.wrap (lf : Int) = (lf : Int) := by rw [IntKind.wrap_u64]; omega
  have hu3 : IntKind.i64.wrap (q : Int) = (q : Int) := by rw [IntKind.wrap_i64]; omega
  have hp1 : (a : Int) % 2 = 0 := by omega
  have hp2 : (a : Int).tmod 2 = 0 := by rw [Int.tmod_eq_emod_of_nonneg (by omega)]; omega
  rw [Hyb.stp_low hrd hlow]
  have hq0 : q = 0 := by omega
  subst hq0
  clear hB hO hXX hlf hlf1 hlf64 hrd r1 r2 r3 r4 hq hmo ho hwt hlow hp
  go_enter Tryz.func155, Tryz.ntmps155
  go_wp2_with fail
  refine Calls.mono (CR _).out ?_
  rintro e w1 ⟨rfl, hx⟩
  have HX := hid hx
  have HB1 := hid (HB.out.keep hx)
  have hc0 := HB1.out.cell 0
  have hf0 := HB1.out.frozen 0
  clear hx
  go_wp2
  refine wp_gen (fun wy => HyRd g wy (s.drop k) wd want o vo ∧ But g w wy) ⟨⟨by rw [← HXD.out]; exact (HB1.out.set 0 _).cast rfl, own_but (own_ext HO.out HX.out) (but_put _ _ _) (Nat.lt_succ_self _)⟩, ((but_refl g w).ext HX.out).put _ (.inl rfl) _⟩ ?_
  rintro w2 ⟨hst, hbut⟩
  have HST := hid hst
  have HBT := hid hbut
  have hd2 := hst.1.cell 2
  have hd3 := hst.1.cell 3
  obtain ⟨A2, c2, rfl, _⟩ := Rd.owned hst.2
  clear hst hbut hc0 hf0
  go_quiet (fail)
  go_wp2
  go_returns
  exact ⟨rfl, (HBT.out.draws _).below (Nat.le_refl _) (Nat.le_of_lt HLT.out), fun h => by cases h⟩
set_option maxRecDepth 100000 in
set_option maxHeartbeats 1600000 in
theorem hyPart_over0 (s : List UInt8) (wd want : Nat) (o : List Nat) (vo : Value) (g : Nat) (w : World) (a k e : Nat) (hrd : Vary.rd s = (a, k, e)) (he : e = 0) (hp : a % 2 = 0) (hlow : 2 ≤ a) (hov : want - o.length < a / 2) (h : HyRd g w s wd want o vo) (ho : o.length < want) (hwt : want ≤ 64) :
    Calls Tryz.prog 155 #[.pointer (some ⟨g, 0, none⟩)] w (HyPart g s wd want o w) := by
  obtain ⟨hB, hO⟩ := h
  have HO := hid hO
  obtain ⟨XX, hXX⟩ : ∃ XX : ByteArray, XX = ⟨s.toArray⟩ := ⟨_, rfl⟩
  have hXs : XX.size = s.length := by rw [hXX, str_size]
  have HXd := hid (show XX.data.toList = s by rw [hXX])
  rw [← hXX] at hB
  have HB := hid hB
  have hc0 := hB.cell 0
  have hf0 := hB.frozen 0
  have HLT := hid hB.lt
  obtain ⟨lf, hlf⟩ : ∃ lf, lf = want - o.length := ⟨_, rfl⟩
  have hlfI : (want : Int) - (o.length : Int) = (lf : Int) := by omega
  have hlf1 : 1 ≤ lf := by omega
  have hlf64 : lf ≤ 64 := by omega
  unfold HyPart
  rw [← hlf]
  have CR : ∀ wx : World, Hid (Calls Tryz.prog 52 #[.string XX] wx fun e' w' => e' = .returned (.tuple #[.int .u64 a, .int .i64 k, .int .i64 e]) ∧ Ext wx w') := fun wx => by
    have := read_any XX wx
    rw [HXd.out, hrd] at this
    exact hid this
  subst he
  obtain ⟨r1, r2, r3, r4, _⟩ := Vary.rd_ok (s := s) (by rw [hrd])
  rw [hrd] at r1 r2 r3 r4
  simp only at r1 r2 r3 r4
  have hT := fun wx : World => run_from (P := Tryz.prog) (w := wx) Tryz.underlying9 XX .i64 k (by omega)
  rw [HXd.out] at hT
  obtain ⟨XD, hXD⟩ : ∃ XD : ByteArray, XD = ⟨(s.drop k).toArray⟩ := ⟨_, rfl⟩
  rw [← hXD] at hT
  have HXD := hid hXD
  have haI : (a : Int) ≤ 18446744073709551615 := by omega
  obtain ⟨q, hq⟩ : ∃ q, q = a / 2 := ⟨_, rfl⟩
  have hq1 : (a : Int) / 2 = (q : Int) := by omega
  have hq2 : (a : Int).tdiv 2 = (q : Int) := by rw [Int.tdiv_eq_ediv_of_nonneg (by omega)]; omega
  have hqI : (q : Int) ≤ 9223372036854775807 := by omega
  obtain ⟨mo, hmo⟩ : ∃ mo, mo = (lf + 7) / 8 := ⟨_, rfl⟩
  have hmo1 : ((lf : Int) + 8 - 1) / 8 = (mo : Int) := by omega
  have hmo2 : ((lf : Int) + 8 - 1).tdiv 8 = (mo : Int) := by rw [Int.tdiv_eq_ediv_of_nonneg (by omega)]; omega
  have hmo3 : ((lf : Int) + 7) / 8 = (mo : Int) := by omega
  have hmo4 : ((lf : Int) + 7).tdiv 8 = (mo : Int) := by rw [Int.tdiv_eq_ediv_of_nonneg (by omega)]; omega
  have hmoI : (mo : Int) ≤ 8 := by omega
  have hlfI2 : (lf : Int) ≤ 64 := by omega
  have hkI : (k : Int) ≤ 9 := by omega
  have hu1 : IntKind.u64.wrap (mo : Int) = (mo : Int) := by rw [IntKind.wrap_u64]; omega
  have hu2 : IntKind.u64.wrap (lf : Int) = (lf : Int) := by rw [IntKind.wrap_u64]; omega
  have hu3 : IntKind.i64.wrap (q : Int) = (q : Int) := by rw [IntKind.wrap_i64]; omega
  have hp1 : (a : Int) % 2 = 0 := by omega
  have hp2 : (a : Int).tmod 2 = 0 := by rw [Int.tmod_eq_emod_of_nonneg (by omega)]; omega
  rw [Hyb.stp_over hrd hlow (by rw [if_pos hp]; omega)]
  have hgt : (lf : Int) < (q : Int) := by omega
  have hqp : (1 : Int) ≤ (q : Int) := by omega
  have hqn : ((q : Int) == 0) = false := by rw [beq_eq_false_iff_ne]; omega
  clear hB hO hXX hlf hlf1 hlf64 hrd r1 r2 r3 r4 hq hmo ho hwt hlow hp hov
  go_enter Tryz.func155, Tryz.ntmps155
  go_wp2_with fail
  refine Calls.mono (CR _).out ?_
  rintro e w1 ⟨rfl, hx⟩
  have HX := hid hx
  have HB1 := hid (HB.out.keep hx)
  have hc0 := HB1.out.cell 0
  have hf0 := HB1.out.frozen 0
  clear hx
  go_wp2
  refine wp_gen (fun wy => HyRd g wy (s.drop k) wd want o vo ∧ But g w wy) ⟨⟨by rw [← HXD.out]; exact (HB1.out.set 0 _).cast rfl, own_but (own_ext HO.out HX.out) (but_put _ _ _) (Nat.lt_succ_self _)⟩, ((but_refl g w).ext HX.out).put _ (.inl rfl) _⟩ ?_
  rintro w2 ⟨hst, hbut⟩
  have HST := hid hst
  have HBT := hid hbut
  have hd2 := hst.1.cell 2
  have hd3 := hst.1.cell 3
  obtain ⟨A2, c2, rfl, _⟩ := Rd.owned hst.2
  clear hst hbut hc0 hf0
  go_quiet (fail)
  go_wp2
  go_returns
  exact ⟨rfl, (HBT.out.draws _).below (Nat.le_refl _) (Nat.le_of_lt HLT.out), fun h => by cases h⟩
set_option maxRecDepth 100000 in
set_option maxHeartbeats 1600000 in
theorem hyPart_low1 (s : List UInt8) (wd want : Nat) (o : List Nat) (vo : Value) (g : Nat) (w : World) (a k e : Nat) (hrd : Vary.rd s = (a, k, e)) (he : e = 0) (hp : a % 2 = 1) (hlow : a < 2) (h : HyRd g w s wd want o vo) (ho : o.length < want) (hwt : want ≤ 64) :
    Calls Tryz.prog 155 #[.pointer (some ⟨g, 0, none⟩)] w (HyPart g s wd want o w) := by
  obtain ⟨hB, hO⟩ := h
  have HO := hid hO
  obtain ⟨XX, hXX⟩ : ∃ XX : ByteArray, XX = ⟨s.toArray⟩ := ⟨_, rfl⟩
  have hXs : XX.size = s.length := by rw [hXX, str_size]
  have HXd := hid (show XX.data.toList = s by rw [hXX])
  rw [← hXX] at hB
  have HB := hid hB
  have hc0 := hB.cell 0
  have hf0 := hB.frozen 0
  have HLT := hid hB.lt
  obtain ⟨lf, hlf⟩ : ∃ lf, lf = want - o.length := ⟨_, rfl⟩
  have hlfI : (want : Int) - (o.length : Int) = (lf : Int) := by omega
  have hlf1 : 1 ≤ lf := by omega
  have hlf64 : lf ≤ 64 := by omega
  unfold HyPart
  rw [← hlf]
  have CR : ∀ wx : World, Hid (Calls Tryz.prog 52 #[.string XX] wx fun e' w' => e' = .returned (.tuple #[.int .u64 a, .int .i64 k, .int .i64 e]) ∧ Ext wx w') := fun wx => by
    have := read_any XX wx
    rw [HXd.out, hrd] at this
    exact hid this
  subst he
  obtain ⟨r1, r2, r3, r4, _⟩ := Vary.rd_ok (s := s) (by rw [hrd])
  rw [hrd] at r1 r2 r3 r4
  simp only at r1 r2 r3 r4
  have hT := fun wx : World => run_from (P := Tryz.prog) (w := wx) Tryz.underlying9 XX .i64 k (by omega)
  rw [HXd.out] at hT
  obtain ⟨XD, hXD⟩ : ∃ XD : ByteArray, XD = ⟨(s.drop k).toArray⟩ := ⟨_, rfl⟩
  rw [← hXD] at hT
  have HXD := hid hXD
  have haI : (a : Int) ≤ 18446744073709551615 := by omega
  obtain ⟨q, hq⟩ : ∃ q, q = a / 2 := ⟨_, rfl⟩
  have hq1 : (a : Int) / 2 = (q : Int) := by omega
  have hq2 : (a : Int).tdiv 2 = (q : Int) := by rw [Int.tdiv_eq_ediv_of_nonneg (by omega)]; omega
  have hqI : (q : Int) ≤ 9223372036854775807 := by omega
  obtain ⟨mo, hmo⟩ : ∃ mo, mo = (lf + 7) / 8 := ⟨_, rfl⟩
  have hmo1 : ((lf : Int) + 8 - 1) / 8 = (mo : Int) := by omega
  have hmo2 : ((lf : Int) + 8 - 1).tdiv 8 = (mo : Int) := by rw [Int.tdiv_eq_ediv_of_nonneg (by omega)]; omega
  have hmo3 : ((lf : Int) + 7) / 8 = (mo : Int) := by omega
  have hmo4 : ((lf : Int) + 7).tdiv 8 = (mo : Int) := by rw [Int.tdiv_eq_ediv_of_nonneg (by omega)]; omega
  have hmoI : (mo : Int) ≤ 8 := by omega
  have hlfI2 : (lf : Int) ≤ 64 := by omega
  have hkI : (k : Int) ≤ 9 := by omega
  have hu1 : IntKind.u64.wrap (mo : Int) = (mo : Int) := by rw [IntKind.wrap_u64]; omega
  have hu2 : IntKind.u64.wrap (lf : Int) = (lf : Int) := by rw [IntKind.wrap_u64]; omega
  have hu3 : IntKind.i64.wrap (q : Int) = (q : Int) := by rw [IntKind.wrap_i64]; omega
  have hp1 : (a : Int) % 2 = 1 := by omega
  have hp2 : (a : Int).tmod 2 = 1 := by rw [Int.tmod_eq_emod_of_nonneg (by omega)]; omega
  rw [Hyb.stp_low hrd hlow]
  have hq0 : q = 0 := by omega
  subst hq0
  clear hB hO hXX hlf hlf1 hlf64 hrd r1 r2 r3 r4 hq hmo ho hwt hlow hp
  go_enter Tryz.func155, Tryz.ntmps155
  go_wp2_with fail
  refine Calls.mono (CR _).out ?_
  rintro e w1 ⟨rfl, hx⟩
  have HX := hid hx
  have HB1 := hid (HB.out.keep hx)
  have hc0 := HB1.out.cell 0
  have hf0 := HB1.out.frozen 0
  clear hx
  go_wp2
  refine wp_gen (fun wy => HyRd g wy (s.drop k) wd want o vo ∧ But g w wy) ⟨⟨by rw [← HXD.out]; exact (HB1.out.set 0 _).cast rfl, own_but (own_ext HO.out HX.out) (but_put _ _ _) (Nat.lt_succ_self _)⟩, ((but_refl g w).ext HX.out).put _ (.inl rfl) _⟩ ?_
  rintro w2 ⟨hst, hbut⟩
  have HST := hid hst
  have HBT := hid hbut
  have hd2 := hst.1.cell 2
  have hd3 := hst.1.cell 3
  obtain ⟨A2, c2, rfl, _⟩ := Rd.owned hst.2
  clear hst hbut hc0 hf0
  go_quiet (fail)
  go_wp2
  go_returns
  exact ⟨rfl, (HBT.out.draws _).below (Nat.le_refl _) (Nat.le_of_lt HLT.out), fun h => by cases h⟩
set_option maxRecDepth 100000 in
set_option maxHeartbeats 1600000 in
theorem hyPart_over1 (s : List UInt8) (wd want : Nat) (o : List Nat) (vo : Value) (g : Nat) (w : World) (a k e : Nat) (hrd : Vary.rd s = (a, k, e)) (he : e = 0) (hp : a % 2 = 1) (hlow : 2 ≤ a) (hov : (want - o.length + 7) / 8 < a / 2) (h : HyRd g w s wd want o vo) (ho : o.length < want) (hwt : want ≤ 64) :
    Calls Tryz.prog 155 #[.pointer (some ⟨g, 0, none⟩)] w (HyPart g s wd want o w) := by
  obtain ⟨hB, hO⟩ := h
  have HO := hid hO
  obtain ⟨XX, hXX⟩ : ∃ XX : ByteArray, XX = ⟨s.toArray⟩ := ⟨_, rfl⟩
  have hXs : XX.size = s.length := by rw [hXX, str_size]
  have HXd := hid (show XX.data.toList = s by rw [hXX])
  rw [← hXX] at hB
  have HB := hid hB
  have hc0 := hB.cell 0
  have hf0 := hB.frozen 0
  have HLT := hid hB.lt
  obtain ⟨lf, hlf⟩ : ∃ lf, lf = want - o.length := ⟨_, rfl⟩
  have hlfI : (want : Int) - (o.length : Int) = (lf : Int) := by omega
  have hlf1 : 1 ≤ lf := by omega
  have hlf64 : lf ≤ 64 := by omega
  unfold HyPart
  rw [← hlf]
  have CR : ∀ wx : World, Hid (Calls Tryz.prog 52 #[.string XX] wx fun e' w' => e' = .returned (.tuple #[.int .u64 a, .int .i64 k, .int .i64 e]) ∧ Ext wx w') := fun wx => by
    have := read_any XX wx
    rw [HXd.out, hrd] at this
    exact hid this
  subst he
  obtain ⟨r1, r2, r3, r4, _⟩ := Vary.rd_ok (s := s) (by rw [hrd])
  rw [hrd] at r1 r2 r3 r4
  simp only at r1 r2 r3 r4
  have hT := fun wx : World => run_from (P := Tryz.prog) (w := wx) Tryz.underlying9 XX .i64 k (by omega)
  rw [HXd.out] at hT
  obtain ⟨XD, hXD⟩ : ∃ XD : ByteArray, XD = ⟨(s.drop k).toArray⟩ := ⟨_, rfl⟩
  rw [← hXD] at hT
  have HXD := hid hXD
  have haI : (a : Int) ≤ 18446744073709551615 := by omega
  obtain ⟨q, hq⟩ : ∃ q, q = a / 2 := ⟨_, rfl⟩
  have hq1 : (a : Int) / 2 = (q : Int) := by omega
  have hq2 : (a : Int).tdiv 2 = (q : Int) := by rw [Int.tdiv_eq_ediv_of_nonneg (by omega)]; omega
  have hqI : (q : Int) ≤ 9223372036854775807 := by omega
  obtain ⟨mo, hmo⟩ : ∃ mo, mo = (lf + 7) / 8 := ⟨_, rfl⟩
  have hmo1 : ((lf : Int) + 8 - 1) / 8 = (mo : Int) := by omega
  have hmo2 : ((lf : Int) + 8 - 1).tdiv 8 = (mo : Int) := by rw [Int.tdiv_eq_ediv_of_nonneg (by omega)]; omega
  have hmo3 : ((lf : Int) + 7) / 8 = (mo : Int) := by omega
  have hmo4 : ((lf : Int) + 7).tdiv 8 = (mo : Int) := by rw [Int.tdiv_eq_ediv_of_nonneg (by omega)]; omega
  have hmoI : (mo : Int) ≤ 8 := by omega
  have hlfI2 : (lf : Int) ≤ 64 := by omega
  have hkI : (k : Int) ≤ 9 := by omega
  have hu1 : IntKind.u64.wrap (mo : Int) = (mo : Int) := by rw [IntKind.wrap_u64]; omega
  have hu2 : IntKind.u64.wrap (lf : Int) = (lf : Int) := by rw [IntKind.wrap_u64]; omega
  have hu3 : IntKind.i64.wrap (q : Int) = (q : Int) := by rw [IntKind.wrap_i64]; omega
  have hp1 : (a : Int) % 2 = 1 := by omega
  have hp2 : (a : Int).tmod 2 = 1 := by rw [Int.tmod_eq_emod_of_nonneg (by omega)]; omega
  rw [Hyb.stp_over hrd hlow (by rw [if_neg (by omega)]; omega)]
  have hgt : (mo : Int) < (q : Int) := by omega
  have hqp : (1 : Int) ≤ (q : Int) := by omega
  have hqn : ((q : Int) == 0) = false := by rw [beq_eq_false_iff_ne]; omega
  clear hB hO hXX hlf hlf1 hlf64 hrd r1 r2 r3 r4 hq hmo ho hwt hlow hp hov
  go_enter Tryz.func155, Tryz.ntmps155
  go_wp2_with fail
  refine Calls.mono (CR _).out ?_
  rintro e w1 ⟨rfl, hx⟩
  have HX := hid hx
  have HB1 := hid (HB.out.keep hx)
  have hc0 := HB1.out.cell 0
  have hf0 := HB1.out.frozen 0
  clear hx
  go_wp2
  refine wp_gen (fun wy => HyRd g wy (s.drop k) wd want o vo ∧ But g w wy) ⟨⟨by rw [← HXD.out]; exact (HB1.out.set 0 _).cast rfl, own_but (own_ext HO.out HX.out) (but_put _ _ _) (Nat.lt_succ_self _)⟩, ((but_refl g w).ext HX.out).put _ (.inl rfl) _⟩ ?_
  rintro w2 ⟨hst, hbut⟩
  have HST := hid hst
  have HBT := hid hbut
  have hd2 := hst.1.cell 2
  have hd3 := hst.1.cell 3
  obtain ⟨A2, c2, rfl, _⟩ := Rd.owned hst.2
  clear hst hbut hc0 hf0
  go_quiet (fail)
  go_wp2
  go_returns
  exact ⟨rfl, (HBT.out.draws _).below (Nat.le_refl _) (Nat.le_of_lt HLT.out), fun h => by cases h⟩
set_option maxRecDepth 100000 in
set_option maxHeartbeats 1600000 in
theorem hyPart_run (s : List UInt8) (wd want : Nat) (o : List Nat) (vo : Value) (g : Nat) (w : World) (a k e : Nat) (hrd : Vary.rd s = (a, k, e)) (he : e = 0) (hp : a % 2 = 0) (hlow : 2 ≤ a) (hov : a / 2 ≤ want - o.length) (h : HyRd g w s wd want o vo) (ho : o.length < want) (hwt : want ≤ 64) (hwd : wd ≤ 64) :
    Calls Tryz.prog 155 #[.pointer (some ⟨g, 0, none⟩)] w (HyPart g s wd want o w) := by
  obtain ⟨hB, hO⟩ := h
  have HO := hid hO
  obtain ⟨XX, hXX⟩ : ∃ XX : ByteArray, XX = ⟨s.toArray⟩ := ⟨_, rfl⟩
  have hXs : XX.size = s.length := by rw [hXX, str_size]
  have HXd := hid (show XX.data.toList = s by rw [hXX])
  rw [← hXX] at hB
  have HB := hid hB
  have hc0 := hB.cell 0
  have hf0 := hB.frozen 0
  have HLT := hid hB.lt
  obtain ⟨lf, hlf⟩ : ∃ lf, lf = want - o.length := ⟨_, rfl⟩
  have hlfI : (want : Int) - (o.length : Int) = (lf : Int) := by omega
  have hlf1 : 1 ≤ lf := by omega
  have hlf64 : lf ≤ 64 := by omega
  unfold HyPart
  rw [← hlf]
  have CR : ∀ wx : World, Hid (Calls Tryz.prog 52 #[.string XX] wx fun e' w' => e' = .returned (.tuple #[.int .u64 a, .int .i64 k, .int .i64 e]) ∧ Ext wx w') := fun wx => by
    have := read_any XX wx
    rw [HXd.out, hrd] at this
    exact hid this
  subst he
  obtain ⟨r1, r2, r3, r4, _⟩ := Vary.rd_ok (s := s) (by rw [hrd])
  rw [hrd] at r1 r2 r3 r4
  simp only at r1 r2 r3 r4
  have hT := fun wx : World => run_from (P := Tryz.prog) (w := wx) Tryz.underlying9 XX .i64 k (by omega)
  rw [HXd.out] at hT
  obtain ⟨XD, hXD⟩ : ∃ XD : ByteArray, XD = ⟨(s.drop k).toArray⟩ := ⟨_, rfl⟩
  rw [← hXD] at hT
  have HXD := hid hXD
  have haI : (a : Int) ≤ 18446744073709551615 := by omega
  obtain ⟨q, hq⟩ : ∃ q, q = a / 2 := ⟨_, rfl⟩
  have hq1 : (a : Int) / 2 = (q : Int) := by omega
  have hq2 : (a : Int).tdiv 2 = (q : Int) := by rw [Int.tdiv_eq_ediv_of_nonneg (by omega)]; omega
  have hqI : (q : Int) ≤ 9223372036854775807 := by omega
  obtain ⟨mo, hmo⟩ : ∃ mo, mo = (lf + 7) / 8 := ⟨_, rfl⟩
  have hmo1 : ((lf : Int) + 8 - 1) / 8 = (mo : Int) := by omega
  have hmo2 : ((lf : Int) + 8 - 1).tdiv 8 = (mo : Int) := by rw [Int.tdiv_eq_ediv_of_nonneg (by omega)]; omega
  have hmo3 : ((lf : Int) + 7) / 8 = (mo : Int) := by omega
  have hmo4 : ((lf : Int) + 7).tdiv 8 = (mo : Int) := by rw [Int.tdiv_eq_ediv_of_nonneg (by omega)]; omega
  have hmoI : (mo : Int) ≤ 8 := by omega
  have hlfI2 : (lf : Int) ≤ 64 := by omega
  have hkI : (k : Int) ≤ 9 := by omega
  have hu1 : IntKind.u64.wrap (mo : Int) = (mo : Int) := by rw [IntKind.wrap_u64]; omega
  have hu2 : IntKind.u64.wrap (lf : Int) = (lf : Int) := by rw [IntKind.wrap_u64]; omega
  have hu3 : IntKind.i64.wrap (q : Int) = (q : Int) := by rw [IntKind.wrap_i64]; omega
  have hp1 : (a : Int) % 2 = 0 := by omega
  have hp2 : (a : Int).tmod 2 = 0 := by rw [Int.tmod_eq_emod_of_nonneg (by omega)]; omega
  have hgt : (q : Int) ≤ (lf : Int) := by omega
  have hqp : (1 : Int) ≤ (q : Int) := by omega
  have hqn : ((q : Int) == 0) = false := by rw [beq_eq_false_iff_ne]; omega
  have HBAD := hid (Hyb.stp_wrong (w := wd) (left := lf) hrd hlow (by rw [if_pos hp]; omega) hwd hlf64)
  rw [show Hyb.each a = 1 from by unfold Hyb.each; rw [if_pos hp]] at HBAD
  have HGOOD := hid (Hyb.stp_row (w := wd) (left := lf) hrd hlow hp (by omega))
  obtain ⟨x, hx⟩ : ∃ x, x = (Hyb.nmb wd 1 (s.drop k)).1.headD 0 := ⟨_, rfl⟩
  have hx1 : (Hyb.nmb wd 1 (s.drop k)).2.1 = 0 → (Hyb.nmb wd 1 (s.drop k)).1 = [x] := fun h => by
    obtain ⟨y, hy, _⟩ := HGOOD.out h
    rw [hx, hy]; rfl
  have hxl : x < 18446744073709551616 := by
    rw [hx]
    cases hl : (Hyb.nmb wd 1 (s.drop k)).1 with
    | nil => simp
    | cons y r =>
      have := Hyb.nmb_lt (w := wd) (many := 1) (s := s.drop k) y (by rw [hl]; simp)
      have h2 : 2 ^ wd ≤ 2 ^ 64 := Nat.pow_le_pow_right (by decide) hwd
      simp only [List.headD_cons]; omega
  have CN := hid (fun (v : Value) (wx : World) (h : HyRd g wx (s.drop k) wd want o v) => hyRun_any (s.drop k) wd want q x o v g wx h (by omega) (by omega) hwd hx1 hxl)
  have HX1 := hid hx1
  have HQ := hid hq
  clear hB hO hXX hlf hlf1 hlf64 hrd r1 r2 r3 r4 hq hmo ho hwt hlow hp hov hx hx1 hxl hwd
  go_enter Tryz.func155, Tryz.ntmps155
  go_wp2_with fail
  refine Calls.mono (CR _).out ?_
  rintro e w1 ⟨rfl, hx⟩
  have HX := hid hx
  have HB1 := hid (HB.out.keep hx)
  have hc0 := HB1.out.cell 0
  have hf0 := HB1.out.frozen 0
  clear hx
  go_wp2
  refine wp_gen (fun wy => HyRd g wy (s.drop k) wd want o vo ∧ But g w wy) ⟨⟨by rw [← HXD.out]; exact (HB1.out.set 0 _).cast rfl, own_but (own_ext HO.out HX.out) (but_put _ _ _) (Nat.lt_succ_self _)⟩, ((but_refl g w).ext HX.out).put _ (.inl rfl) _⟩ ?_
  rintro w2 ⟨hst, hbut⟩
  have HST := hid hst
  have HBT := hid hbut
  have hd2 := hst.1.cell 2
  have hd3 := hst.1.cell 3
  obtain ⟨A2, c2, rfl, _⟩ := Rd.owned hst.2
  clear hst hbut hc0 hf0
  go_quiet (fail)
  go_wp2_with fail
  refine Calls.mono (CN.out _ _ (HST.out.keep ((ext_refl _).draws _))) ?_
  rintro e w3 ⟨rfl, hb, hgd⟩
  have HBL := hid (((HBT.out.draws _).below (Nat.le_refl _) (Nat.le_of_lt HLT.out)).trans hb)
  have HGD := hid hgd
  clear hb hgd
  go_wp2
  go_returns
  by_cases h0 : (Hyb.nmb wd 1 (s.drop k)).2.1 = 0
  · obtain ⟨y, hy, hst, hr⟩ := HGOOD.out h0
    obtain rfl : x = y := by have := HX1.out h0; rw [hy] at this; injection this with this; exact this.symm
    rw [hst]
    refine ⟨by rw [h0]; rfl, HBL.out, fun _ => ?_⟩
    have := HGD.out h0
    rw [hr, HQ.out] at this
    exact this
  · rw [HBAD.out h0]
    exact ⟨rfl, HBL.out, fun h => absurd h h0⟩
set_option maxRecDepth 100000 in
set_option maxHeartbeats 1600000 in
theorem hyPart_blkbad (s : List UInt8) (wd want : Nat) (o : List Nat) (vo : Value) (g : Nat) (w : World) (a k e : Nat) (hrd : Vary.rd s = (a, k, e)) (he : e = 0) (hp : a % 2 = 1) (hlow : 2 ≤ a) (hov : a / 2 ≤ (want - o.length + 7) / 8) (hb0 : (Hyb.nmb wd (a / 2 * 8) (s.drop k)).2.1 ≠ 0) (h : HyRd g w s wd want o vo) (ho : o.length < want) (hwt : want ≤ 64) (hwd : wd ≤ 64) :
    Calls Tryz.prog 155 #[.pointer (some ⟨g, 0, none⟩)] w (HyPart g s wd want o w) := by
  obtain ⟨hB, hO⟩ := h
  have HO := hid hO
  obtain ⟨XX, hXX⟩ : ∃ XX : ByteArray, XX = ⟨s.toArray⟩ := ⟨_, rfl⟩
  have hXs : XX.size = s.length := by rw [hXX, str_size]
  have HXd := hid (show XX.data.toList = s by rw [hXX])
  rw [← hXX] at hB
  have HB := hid hB
  have hc0 := hB.cell 0
  have hf0 := hB.frozen 0
  have HLT := hid hB.lt
  obtain ⟨lf, hlf⟩ : ∃ lf, lf = want - o.length := ⟨_, rfl⟩
  have hlfI : (want : Int) - (o.length : Int) = (lf : Int) := by omega
  have hlf1 : 1 ≤ lf := by omega
  have hlf64 : lf ≤ 64 := by omega
  unfold HyPart
  rw [← hlf]
  have CR : ∀ wx : World, Hid (Calls Tryz.prog 52 #[.string XX] wx fun e' w' => e' = .returned (.tuple #[.int .u64 a, .int .i64 k, .int .i64 e]) ∧ Ext wx w') := fun wx => by
    have := read_any XX wx
    rw [HXd.out, hrd] at this
    exact hid this
  subst he
  obtain ⟨r1, r2, r3, r4, _⟩ := Vary.rd_ok (s := s) (by rw [hrd])
  rw [hrd] at r1 r2 r3 r4
  simp only at r1 r2 r3 r4
  have hT := fun wx : World => run_from (P := Tryz.prog) (w := wx) Tryz.underlying9 XX .i64 k (by omega)
  rw [HXd.out] at hT
  obtain ⟨XD, hXD⟩ : ∃ XD : ByteArray, XD = ⟨(s.drop k).toArray⟩ := ⟨_, rfl⟩
  rw [← hXD] at hT
  have HXD := hid hXD
  have haI : (a : Int) ≤ 18446744073709551615 := by omega
  obtain ⟨q, hq⟩ : ∃ q, q = a / 2 := ⟨_, rfl⟩
  have hq1 : (a : Int) / 2 = (q : Int) := by omega
  have hq2 : (a : Int).tdiv 2 = (q : Int) := by rw [Int.tdiv_eq_ediv_of_nonneg (by omega)]; omega
  have hqI : (q : Int) ≤ 9223372036854775807 := by omega
  obtain ⟨mo, hmo⟩ : ∃ mo, mo = (lf + 7) / 8 := ⟨_, rfl⟩
  have hmo1 : ((lf : Int) + 8 - 1) / 8 = (mo : Int) := by omega
  have hmo2 : ((lf : Int) + 8 - 1).tdiv 8 = (mo : Int) := by rw [Int.tdiv_eq_ediv_of_nonneg (by omega)]; omega
  have hmo3 : ((lf : Int) + 7) / 8 = (mo : Int) := by omega
  have hmo4 : ((lf : Int) + 7).tdiv 8 = (mo : Int) := by rw [Int.tdiv_eq_ediv_of_nonneg (by omega)]; omega
  have hmoI : (mo : Int) ≤ 8 := by omega
  have hlfI2 : (lf : Int) ≤ 64 := by omega
  have hkI : (k : Int) ≤ 9 := by omega
  have hu1 : IntKind.u64.wrap (mo : Int) = (mo : Int) := by rw [IntKind.wrap_u64]; omega
  have hu2 : IntKind.u64.wrap (lf : Int) = (lf : Int) := by rw [IntKind.wrap_u64]; omega
  have hu3 : IntKind.i64.wrap (q : Int) = (q : Int) := by rw [IntKind.wrap_i64]; omega
  have hp1 : (a : Int) % 2 = 1 := by omega
  have hp2 : (a : Int).tmod 2 = 1 := by rw [Int.tmod_eq_emod_of_nonneg (by omega)]; omega
  have hgt : (q : Int) ≤ (mo : Int) := by omega
  have hqp : (1 : Int) ≤ (q : Int) := by omega
  have hqn : ((q : Int) == 0) = false := by rw [beq_eq_false_iff_ne]; omega
  obtain ⟨z, hz⟩ : ∃ z, z = q * 8 := ⟨_, rfl⟩
  have hz1 : (q : Int) * 8 = (z : Int) := by omega
  have hzI : (z : Int) ≤ 64 := by omega
  have CN := hid (fun (v : Value) (wx : World) (h : HyRd g wx (s.drop k) wd want o v) => hyNumbers_any (s.drop k) wd want z o v g wx h (by omega) hwd)
  rw [← hq, ← hz] at hb0
  have HBAD := Hyb.stp_wrong (w := wd) (left := lf) hrd hlow (by rw [if_neg (by omega)]; omega) hwd hlf64
  rw [show Hyb.each a = z from by unfold Hyb.each; rw [if_neg (by omega), hz, hq]] at HBAD
  rw [HBAD hb0]
  obtain ⟨er, her⟩ : ∃ er, er = (Hyb.nmb wd z (s.drop k)).2.1 := ⟨_, rfl⟩
  rw [← her] at hb0 CN ⊢
  have h3 : ((er : Int) != 0) = true := by rw [bne_iff_ne]; omega
  have h4 : ((er : Int) == 0) = false := by rw [beq_eq_false_iff_ne]; omega
  have HE := hid hb0
  clear hB hO hXX hlf hlf1 hlf64 hrd r1 r2 r3 r4 hq hmo ho hwt hlow hp hov hb0 hz HBAD her hwd
  go_enter Tryz.func155, Tryz.ntmps155
  go_wp2_with fail
  refine Calls.mono (CR _).out ?_
  rintro e w1 ⟨rfl, hx⟩
  have HX := hid hx
  have HB1 := hid (HB.out.keep hx)
  have hc0 := HB1.out.cell 0
  have hf0 := HB1.out.frozen 0
  clear hx
  go_wp2
  refine wp_gen (fun wy => HyRd g wy (s.drop k) wd want o vo ∧ But g w wy) ⟨⟨by rw [← HXD.out]; exact (HB1.out.set 0 _).cast rfl, own_but (own_ext HO.out HX.out) (but_put _ _ _) (Nat.lt_succ_self _)⟩, ((but_refl g w).ext HX.out).put _ (.inl rfl) _⟩ ?_
  rintro w2 ⟨hst, hbut⟩
  have HST := hid hst
  have HBT := hid hbut
  have hd2 := hst.1.cell 2
  have hd3 := hst.1.cell 3
  obtain ⟨A2, c2, rfl, _⟩ := Rd.owned hst.2
  clear hst hbut hc0 hf0
  go_quiet (fail)
  go_wp2_with fail
  refine Calls.mono (CN.out _ _ (HST.out.keep ((ext_refl _).draws _))) ?_
  rintro e w3 ⟨v, rfl, _, _, hb⟩
  have HBL := hid (((HBT.out.draws _).below (Nat.le_refl _) (Nat.le_of_lt HLT.out)).trans (hb.below (Nat.le_refl _) (Nat.le_trans (Nat.le_of_lt HLT.out) (HBT.out.draws _).size)))
  clear hb
  go_wp2
  go_returns
  exact ⟨rfl, HBL.out, fun h => absurd h HE.out⟩
set_option maxRecDepth 100000 in
set_option maxHeartbeats 1600000 in
theorem hyPart_blkok (s : List UInt8) (wd want : Nat) (o : List Nat) (vo : Value) (g : Nat) (w : World) (a k e : Nat) (hrd : Vary.rd s = (a, k, e)) (he : e = 0) (hp : a % 2 = 1) (hlow : 2 ≤ a) (hov : a / 2 ≤ (want - o.length + 7) / 8) (hb0 : (Hyb.nmb wd (a / 2 * 8) (s.drop k)).2.1 = 0) (h : HyRd g w s wd want o vo) (ho : o.length < want) (hwt : want ≤ 64) (hwd : wd ≤ 64) :
    Calls Tryz.prog 155 #[.pointer (some ⟨g, 0, none⟩)] w (HyPart g s wd want o w) := by
  obtain ⟨hB, hO⟩ := h
  have HO := hid hO
  obtain ⟨XX, hXX⟩ : ∃ XX : ByteArray, XX = ⟨s.toArray⟩ := ⟨_, rfl⟩
  have hXs : XX.size = s.length := by rw [hXX, str_size]
  have HXd := hid (show XX.data.toList = s by rw [hXX])
  rw [← hXX] at hB
  have HB := hid hB
  have hc0 := hB.cell 0
  have hf0 := hB.frozen 0
  have HLT := hid hB.lt
  obtain ⟨lf, hlf⟩ : ∃ lf, lf = want - o.length := ⟨_, rfl⟩
  have hlfI : (want : Int) - (o.length : Int) = (lf : Int) := by omega
  have hlf1 : 1 ≤ lf := by omega
  have hlf64 : lf ≤ 64 := by omega
  unfold HyPart
  rw [← hlf]
  have CR : ∀ wx : World, Hid (Calls Tryz.prog 52 #[.string XX] wx fun e' w' => e' = .returned (.tuple #[.int .u64 a, .int .i64 k, .int .i64 e]) ∧ Ext wx w') := fun wx => by
    have := read_any XX wx
    rw [HXd.out, hrd] at this
    exact hid this
  subst he
  obtain ⟨r1, r2, r3, r4, _⟩ := Vary.rd_ok (s := s) (by rw [hrd])
  rw [hrd] at r1 r2 r3 r4
  simp only at r1 r2 r3 r4
  have hT := fun wx : World => run_from (P := Tryz.prog) (w := wx) Tryz.underlying9 XX .i64 k (by omega)
  rw [HXd.out] at hT
  obtain ⟨XD, hXD⟩ : ∃ XD : ByteArray, XD = ⟨(s.drop k).toArray⟩ := ⟨_, rfl⟩
  rw [← hXD] at hT
  have HXD := hid hXD
  have haI : (a : Int) ≤ 18446744073709551615 := by omega
  obtain ⟨q, hq⟩ : ∃ q, q = a / 2 := ⟨_, rfl⟩
  have hq1 : (a : Int) / 2 = (q : Int) := by omega
  have hq2 : (a : Int).tdiv 2 = (q : Int) := by rw [Int.tdiv_eq_ediv_of_nonneg (by omega)]; omega
  have hqI : (q : Int) ≤ 9223372036854775807 := by omega
  obtain ⟨mo, hmo⟩ : ∃ mo, mo = (lf + 7) / 8 := ⟨_, rfl⟩
  have hmo1 : ((lf : Int) + 8 - 1) / 8 = (mo : Int) := by omega
  have hmo2 : ((lf : Int) + 8 - 1).tdiv 8 = (mo : Int) := by rw [Int.tdiv_eq_ediv_of_nonneg (by omega)]; omega
  have hmo3 : ((lf : Int) + 7) / 8 = (mo : Int) := by omega
  have hmo4 : ((lf : Int) + 7).tdiv 8 = (mo : Int) := by rw [Int.tdiv_eq_ediv_of_nonneg (by omega)]; omega
  have hmoI : (mo : Int) ≤ 8 := by omega
  have hlfI2 : (lf : Int) ≤ 64 := by omega
  have hkI : (k : Int) ≤ 9 := by omega
  have hu1 : IntKind.u64.wrap (mo : Int) = (mo : Int) := by rw [IntKind.wrap_u64]; omega
  have hu2 : IntKind.u64.wrap (lf : Int) = (lf : Int) := by rw [IntKind.wrap_u64]; omega
  have hu3 : IntKind.i64.wrap (q : Int) = (q : Int) := by rw [IntKind.wrap_i64]; omega
  have hp1 : (a : Int) % 2 = 1 := by omega
  have hp2 : (a : Int).tmod 2 = 1 := by rw [Int.tmod_eq_emod_of_nonneg (by omega)]; omega
  have hgt : (q : Int) ≤ (mo : Int) := by omega
  have hqp : (1 : Int) ≤ (q : Int) := by omega
  have hqn : ((q : Int) == 0) = false := by rw [beq_eq_false_iff_ne]; omega
  obtain ⟨z, hz⟩ : ∃ z, z = q * 8 := ⟨_, rfl⟩
  have hz1 : (q : Int) * 8 = (z : Int) := by omega
  have hzI : (z : Int) ≤ 64 := by omega
  have CN := hid (fun (v : Value) (wx : World) (h : HyRd g wx (s.drop k) wd want o v) => hyNumbers_any (s.drop k) wd want z o v g wx h (by omega) hwd)
  rw [← hq, ← hz] at hb0
  have HST0 := Hyb.stp_blocks (w := wd) (left := lf) hrd hlow hp (by omega) (by rw [← hq, ← hz]; exact hb0)
  rw [← hq, ← hz] at HST0
  have hll := Hyb.nmb_len hb0
  obtain ⟨L, er, r, hn⟩ : ∃ L er r, Hyb.nmb wd z (s.drop k) = (L, er, r) := ⟨_, _, _, rfl⟩
  rw [hn] at CN hb0 HST0 hll
  simp only at CN hb0 HST0 hll
  subst hb0
  obtain ⟨hst0, hr0⟩ := HST0
  have HS0 := hid hst0
  have HR0 := hid hr0
  obtain ⟨mn, hmn⟩ : ∃ mn, mn = min lf z := ⟨_, rfl⟩
  have hmn1 : min (lf : Int) (z : Int) = (mn : Int) := by omega
  have hmnz : (mn : Int) ≤ (z : Int) := by omega
  have HTK := hid (show L.take lf = L.take mn by rw [hmn, ← hll]; exact (take_minl L lf).symm)
  have HDR := hid (show L.drop lf = L.drop mn by rw [hmn, ← hll]; exact (drop_minl L lf).symm)
  obtain ⟨d, hd⟩ : ∃ d, d = z - mn := ⟨_, rfl⟩
  have hdI : (z : Int) - (mn : Int) = (d : Int) := by omega
  have hd64 : (d : Int) ≤ 64 := by omega
  have HDL := hid (show (L.drop mn).length = d by rw [List.length_drop, hll, hd])
  have HTL := hid (show (L.take mn).length = mn by rw [List.length_take, hll]; omega)
  have HLL := hid hll
  have HMZ := hid (show mn ≤ z by omega)
  have HMN := hid (show mn ≤ 64 by omega)
  have HOL := hid (show o.length ≤ 64 by omega)
  have HDD := hid hd
  clear hB hO hXX hlf hlf1 hlf64 hrd r1 r2 r3 r4 hq hmo ho hwt hlow hp hov hz hn hll hst0 hr0 hmn hd hwd
  go_enter Tryz.func155, Tryz.ntmps155
  go_wp2_with fail
  refine Calls.mono (CR _).out ?_
  rintro e w1 ⟨rfl, hx⟩
  have HX := hid hx
  have HB1 := hid (HB.out.keep hx)
  have hc0 := HB1.out.cell 0
  have hf0 := HB1.out.frozen 0
  clear hx
  go_wp2
  refine wp_gen (fun wy => HyRd g wy (s.drop k) wd want o vo ∧ But g w wy) ⟨⟨by rw [← HXD.out]; exact (HB1.out.set 0 _).cast rfl, own_but (own_ext HO.out HX.out) (but_put _ _ _) (Nat.lt_succ_self _)⟩, ((but_refl g w).ext HX.out).put _ (.inl rfl) _⟩ ?_
  rintro w2 ⟨hst, hbut⟩
  have HST := hid hst
  have HBT := hid hbut
  have hd2 := hst.1.cell 2
  have hd3 := hst.1.cell 3
  obtain ⟨A2, c2, rfl, _⟩ := Rd.owned hst.2
  clear hst hbut hc0 hf0
  go_quiet (fail)
  go_wp2_with fail
  refine Calls.mono (CN.out _ _ (HST.out.keep ((ext_refl _).draws _))) ?_
  rintro e w3 ⟨v, rfl, hown, hst3, hb⟩
  obtain ⟨A, cap, rfl, hrl, hA, hcap, _⟩ := Rd.owned hown
  have HBL := hid (((HBT.out.draws _).below (Nat.le_refl _) (Nat.le_of_lt HLT.out)).trans (hb.below (Nat.le_refl g) (Nat.le_trans (Nat.le_of_lt HLT.out) (HBT.out.draws _).size)))
  have HRL := hid hrl
  have HS3 := hid hst3
  have HCAP := hid hcap
  have HRF := hid (hrl.u64from mn cap hcap)
  have HSL := fun wx : World => sl_from (P := Tryz.prog) (t := 58) (e := 34) (m := 1) Tryz.underlying58 (by kernel_rfl) A L.length cap .i64 mn (by rw [HLL.out]; exact HMZ.out) wx
  have HST4 := fun wx : World => sl_to (P := Tryz.prog) (t := 58) (e := 34) (m := 1) Tryz.underlying58 (by kernel_rfl) A L.length cap .i64 mn (by have := HLL.out; have := HMZ.out; omega) wx
  have HAN := hid hA
  rw [HLL.out] at HSL HST4 ⊢
  rw [← HDD.out] at HSL
  obtain ⟨R2, hR2⟩ : ∃ R2, R2 = slF A mn cap 1 := ⟨_, rfl⟩
  rw [← hR2] at HSL HRF
  clear hown hst3 hb hrl hA hcap hd2 hd3 hR2
  go_wp2
  go_loop [11, 87] (fun _ c => ∃ j : Nat, j ≤ d ∧ c = .int .i64 j ∧ Hid (∀ i, i < j → (L.drop mn)[i]? = some 0)) (fun _ c => d - (intOf c).toNat)
  case atStart => exact ⟨0, Nat.zero_le _, rfl, hid (fun i h => by omega)⟩
  case round =>
    obtain ⟨j, hj, rfl, HZ⟩ := hrel
    have hjI : (j : Int) ≤ (d : Int) := by omega
    by_cases hlt : j < d
    · have hltI : (j : Int) < (d : Int) := by omega
      obtain ⟨y, hy⟩ : ∃ y, (L.drop mn)[j]? = some y := ⟨_, List.getElem?_eq_getElem (by rw [HDL.out]; exact hlt)⟩
      obtain ⟨rb, ro, rfl, rlt, rc⟩ := HRF.out.num0 (by rw [HDL.out]; omega)
      have dy := rc j y hy
      clear rc
      have HY := hid hy
      clear hy
      by_cases hy0 : y = 0
      · subst hy0
        go_wp2
        go_round
        case rel => exact ⟨j + 1, by omega, by go_num, hid (fun i hi => by
          rcases Nat.lt_or_ge i j with h4 | h4
          · exact HZ.out i h4
          · rw [show i = j by omega]; exact HY.out)⟩
        case measure => simp [intOf]; omega
      · have h3 : ((y : Int) != 0) = true := by rw [bne_iff_ne]; omega
        have h4 : ((y : Int) == 0) = false := by rw [beq_eq_false_iff_ne]; omega
        have HF := hid (show (1, ([] : List Nat), 0) = Hyb.stp wd lf s from by
          rw [HS0.out, if_neg]
          intro h
          rw [HDR.out] at h
          have := List.all_eq_true.1 h y (List.mem_of_getElem? HY.out)
          simp at this; exact hy0 this)
        clear hy0
        go_wp2
        go_returns
        rw [← HF.out]
        exact ⟨rfl, HBL.out, fun h => by cases h⟩
    · obtain rfl : j = d := by omega
      have HF := hid (show Hyb.stp wd lf s = (0, L.take mn, k + Bits.size z wd) from by
        rw [HS0.out, if_pos, HTK.out]
        rw [HDR.out, List.all_eq_true]
        intro y hy
        obtain ⟨i, hi, rfl⟩ := List.getElem_of_mem hy
        have h5 := HZ.out i (by rw [← HDL.out]; exact hi)
        rw [List.getElem?_eq_getElem hi] at h5
        injection h5 with h5
        simp [h5])
      have hd3 := HS3.out.1.cell 3
      have HWL := hid HS3.out.1.lt
      have HNG := hid (show (Value.slice A2 o.length c2).ownBlock ≠ some g from fun e1 => by have := (HS3.out.2.lt g e1).1; omega)
      clear hlt HRF
      go_wp2_with fail
      have hd3r := cell_regrown hd3
      refine wp_region_late [11, 14] [0, 12, 13] [(0, true), (1, true), (2, true), (3, true), (4, true), (5, true), (6, true), (7, true), (8, false), (9, false), (10, true), (11, false), (12, true), (13, true), (14, false)] (by kernel_rfl) (by kernel_rfl) (fun _ _ _ _ _ h => h) (by kernel_rfl) (by rfl) ?_
      simp only [List.filterMap_cons, List.filterMap_nil, List.getElem?_toArray, List.getElem?_cons_zero, List.getElem?_cons_succ, Option.map_some, List.contains_cons, List.contains_nil, Nat.reduceBEq, Bool.or_false, Bool.or_true]
      repeat ((first | refine wpL_val (by rfl) ?_ | refine wpL_pure (by rfl) ?_); intro K hK; go_big_quiet_op; go_big_quiet_on)
      refine wpL_do (by rfl) ?_
      intro K hK
      go_simp
      have X1 : Ext w3 w3.drew := Ext.draw (ext_refl w3)
      refine hK _ _ X1 ?_
      clear K hK
      refine wpL_do (by rfl) ?_
      intro K hK
      go_simp
      refine hK _ _ X1 ?_
      clear K hK
      repeat (refine wpL_val (by rfl) ?_; intro K hK; go_big_quiet_op; go_big_quiet_on)
      refine wpL_late (by rfl) ?_
      intro K hK
      refine wp_app (.tmp 98) (.tmp 104) rowU64 rfl _ o.length (u64s o) rfl (own_ext HS3.out.2 X1) _ mn (u64s (L.take mn)) rfl (Src.rd Tryz.underlying58 A mn cap _ (by rw [u64s_len, HTL.out, Nat.mul_one]) ((show Rd w3 A (u64s (L.take mn)) from by
          have h := HRL.out
          rw [← List.take_append_drop mn L, u64s_app] at h
          exact h.pre).keep X1) (u64s_one _) (fun h => by have := HAN.out h; have := HMZ.out; have := HLL.out; omega)) (by have := HOL.out; have := HMN.out; unfold maxLen; omega) (by have := HOL.out; have := HMN.out; omega) (by have := HWL.out; simp; omega) ?_
      intro v3 w4 hown3 hgr3 hat3 hbel3
      refine hK _ _ ?_
      clear K hK
      obtain ⟨C3, c3, rfl, _⟩ := Rd.owned hown3
      have B3 := blk_grown (HS3.out.1.keep X1) hgr3 HNG.out
      have hc33 := B3.cell 3
      have hf33 := B3.frozen 3
      have HB3 := hid B3
      have HO3 := hid hown3
      have HL3 := hid hbel3
      clear hown3 hgr3 hat3 hbel3 B3 hd3 hd3r
      simp only [Act.put, List.setIfInBounds_toArray, List.set_cons_succ, List.set_cons_zero]
      repeat (refine wpL_pure (by rfl) ?_; intro K hK; go_big_quiet_op; go_big_quiet_on)
      refine wpL_late (by rfl) ?_
      intro K hK
      go_simp
      refine hK _ _ ?_
      clear K hK
      refine wpL_nil ?_
      go_wp2
      go_returns
      rw [HF.out]
      refine ⟨rfl, Below.setCell (Below.trans HBL.out (Below.trans (X1.mono (by have := HWL.out; omega)) (HL3.out.mono (by omega)))) (Nat.le_refl _) _, fun _ => ⟨.slice C3 (o.length + mn) c3, ?_, ?_⟩⟩
      · rw [← HR0.out]
        exact (HB3.out.set 3 _).cast rfl
      · rw [List.length_append, HTL.out, u64s_app]
        exact own_but HO3.out (but_put _ _ _) (Nat.lt_succ_self _)
theorem hyPart_any (s : List UInt8) (wd want : Nat) (o : List Nat) (vo : Value) (g : Nat) (w : World) (h : HyRd g w s wd want o vo) (ho : o.length < want) (hwt : want ≤ 64) (hwd : wd ≤ 64) :
    Calls Tryz.prog 155 #[.pointer (some ⟨g, 0, none⟩)] w (HyPart g s wd want o w) := by
  obtain ⟨a, k, e, hrd⟩ : ∃ a k e, Vary.rd s = (a, k, e) := ⟨_, _, _, rfl⟩
  by_cases he : e = 0
  · by_cases hlow : a < 2
    · rcases Nat.mod_two_eq_zero_or_one a with hp | hp
      · exact hyPart_low0 s wd want o vo g w a k e hrd he hp hlow h ho hwt
      · exact hyPart_low1 s wd want o vo g w a k e hrd he hp hlow h ho hwt
    · rcases Nat.mod_two_eq_zero_or_one a with hp | hp
      · by_cases hov : want - o.length < a / 2
        · exact hyPart_over0 s wd want o vo g w a k e hrd he hp (by omega) hov h ho hwt
        · exact hyPart_run s wd want o vo g w a k e hrd he hp (by omega) (by omega) h ho hwt hwd
      · by_cases hov : (want - o.length + 7) / 8 < a / 2
        · exact hyPart_over1 s wd want o vo g w a k e hrd he hp (by omega) hov h ho hwt
        · by_cases hb0 : (Hyb.nmb wd (a / 2 * 8) (s.drop k)).2.1 = 0
          · exact hyPart_blkok s wd want o vo g w a k e hrd he hp (by omega) (by omega) hb0 h ho hwt hwd
          · exact hyPart_blkbad s wd want o vo g w a k e hrd he hp (by omega) (by omega) hb0 h ho hwt hwd
  · exact hyPart_bad s wd want o vo g w a k e hrd he h ho hwt
end Go.Proofs.YthgnipangcmanaaGreat
end
section
namespace Go.Proofs.YthgnipangcmanaaGreat
open Go.RowKit Hy
def outLen (g : Nat) (w : World) : Nat :=
  match w.cell? ⟨g, 3, none⟩ with
  | some (.slice _ n _) => n
  | _ => 0
theorem HyRd.outLen {g : Nat} {w : World} {s : List UInt8} {wd want : Nat} {o : List Nat} {v : Value} (h : HyRd g w s wd want o v) : outLen g w = o.length := by
  have := h.1.cell 3
  obtain ⟨A, c, rfl, _⟩ := Rd.owned h.2
  unfold Go.Proofs.YthgnipangcmanaaGreat.outLen
  rw [this]; rfl
set_option maxRecDepth 100000 in
set_option maxHeartbeats 1600000 in
theorem hyRead_own (s0 : ByteArray) (many wd : Int) (w : World) :
    Calls Tryz.prog 119 #[.string s0, .int .i64 many, .int .i64 wd] w (NumsOwn 34 (Hyb.rdl s0.data.toList many wd).1 (Hyb.rdl s0.data.toList many wd).2 w) := by
  by_cases h0 : wd < 0
  · rw [Hyb.rdl_range (.inl (.inl h0))]
    go_enter Tryz.func119, Tryz.ntmps119
    go_wp2
    go_returns
    exact ⟨.slice none 0 0, rfl, World.ownsRow_nil _ _ _ _, ext_refl _⟩
  · by_cases h1 : 64 < wd
    · rw [Hyb.rdl_range (.inl (.inr h1))]
      go_enter Tryz.func119, Tryz.ntmps119
      go_wp2
      go_returns
      exact ⟨.slice none 0 0, rfl, World.ownsRow_nil _ _ _ _, ext_refl _⟩
    · by_cases h2 : many < 0
      · rw [Hyb.rdl_range (.inr h2)]
        go_enter Tryz.func119, Tryz.ntmps119
        go_wp2
        go_returns
        exact ⟨.slice none 0 0, rfl, World.ownsRow_nil _ _ _ _, ext_refl _⟩
      · by_cases h3 : 64 < many
        · rw [Hyb.rdl_many (by omega) h3]
          go_enter Tryz.func119, Tryz.ntmps119
          go_wp2
          go_returns
          exact ⟨.slice none 0 0, rfl, World.ownsRow_nil _ _ _ _, ext_refl _⟩
        · obtain ⟨mm, rfl⟩ := Int.eq_ofNat_of_zero_le (show 0 ≤ many by omega)
          obtain ⟨wn, rfl⟩ := Int.eq_ofNat_of_zero_le (show 0 ≤ wd by omega)
          have hm : mm ≤ 64 := by omega
          have hwn : wn ≤ 64 := by omega
          have hmI : (mm : Int) ≤ 64 := by omega
          have hwI : (wn : Int) ≤ 64 := by omega
          rw [Hyb.rdl_in hwn hm]
          obtain ⟨M, hM⟩ : ∃ M, M = Hyb.rdF wn mm mm s0.data.toList [] := ⟨_, rfl⟩
          rw [← hM]
          have HM := hid hM
          have HMM := hid hm
          have HWN := hid hwn
          clear hM h0 h1 h2 h3 hm hwn
          go_enter Tryz.func119, Tryz.ntmps119
          go_wp2
          go_loopw [9] (fun _ wr => ∃ (s : List UInt8) (o : List Nat) (v : Value) (f : Nat), HyRd w.heap.size wr s wn mm o v ∧ Hid (o.length ≤ mm) ∧ Hid (mm ≤ o.length + f) ∧ Hid (M = Hyb.rdF wn mm f s o) ∧ Hid (Ext w wr)) (fun _ wr => mm - outLen w.heap.size wr)
          case atStart => exact ⟨s0.data.toList, [], .slice none 0 0, mm, ⟨Blk.new _ _ _, World.ownsRow_nil _ _ _ _⟩, hid (Nat.zero_le _), hid (by simp), HM, hid ((ext_refl _).new _)⟩
          case round =>
            obtain ⟨s, o, v, f, hst, HOL, HF, HI, HX⟩ := hrel
            have HST := hid hst
            have hd3 := hst.1.cell 3
            obtain ⟨A2, c2, rfl, _⟩ := Rd.owned hst.2
            have HOW := hid (own_low' hst.2 (Nat.le_succ _))
            by_cases hlt : o.length < mm
            · have hltI : (o.length : Int) < (mm : Int) := by omega
              have HC := hid (hyPart_any s wn mm o _ w.heap.size wr hst hlt HMM.out HWN.out)
              obtain ⟨fn, hf⟩ : ∃ fn, f = fn + 1 := ⟨f - 1, by have := HF.out; omega⟩
              obtain ⟨er, l, k, hs⟩ : ∃ er l k, Hyb.stp wn (mm - o.length) s = (er, l, k) := ⟨_, _, _, rfl⟩
              by_cases he : er = 0
              · subst he
                have hl := Hyb.stp_len (w := wn) (left := mm - o.length) (s := s) (by rw [hs]) (by omega)
                rw [hs] at hl
                have e2 := HI.out
                rw [hf, Hyb.rdF_ok wn mm fn s o l k hlt hs] at e2
                have HE := hid e2
                have HL := hid (show o.length + 1 ≤ (o ++ l).length ∧ (o ++ l).length ≤ mm by rw [List.length_append]; simp only at hl; omega)
                have HF2 := hid (show mm ≤ (o ++ l).length + fn by have := HF.out; have := HL.out; omega)
                have HOO := hid (hst.outLen)
                unfold HyPart at HC
                rw [hs] at HC
                simp only at HC
                clear hs hl e2 hf hst HI hlt
                go_wp2_with fail
                refine Calls.mono HC.out ?_
                rintro e w2 ⟨rfl, hb, hgd⟩
                obtain ⟨v2, hst2⟩ := hgd (by trivial)
                have HB := hid hb
                clear hb hgd
                go_wp2
                go_roundw
                case rel => exact ⟨s.drop k, o ++ l, v2, fn, hst2, hid HL.out.2, HF2, HE, hid (Below.trans HX.out HB.out)⟩
                case measure =>
                  have h5 := hst2.outLen
                  have h6 := HOO.out
                  have h7 := HL.out
                  rw [h5, h6]; omega
              · have e2 := HI.out
                rw [hf, Hyb.rdF_bad wn mm fn s o hlt (by rw [hs]; exact he), hs] at e2
                have HE := hid e2
                unfold HyPart at HC
                rw [hs] at HC
                simp only at HC
                have h3 : ((er : Int) != 0) = true := by rw [bne_iff_ne]; omega
                have h4 : ((er : Int) == 0) = false := by rw [beq_eq_false_iff_ne]; omega
                clear hs e2 hf hst HI hlt he
                go_wp2_with fail
                refine Calls.mono HC.out ?_
                rintro e w2 ⟨rfl, hb, _⟩
                go_wp2
                go_returns
                exact ⟨.slice none 0 0, by rw [HE.out]; rfl, by rw [HE.out]; exact World.ownsRow_nil _ _ _ _, Below.trans HX.out hb⟩
            · have hge : (mm : Int) ≤ (o.length : Int) := by omega
              have e2 := HI.out
              rw [Hyb.rdF_end wn mm f s o (by omega)] at e2
              have hc0 := hst.1.cell 0
              by_cases hs0 : s = []
              · subst hs0
                rw [if_pos rfl] at e2
                have HE := hid e2
                clear e2 HI hst hlt
                go_wp2
                go_returns
                exact ⟨_, by rw [HE.out]; rfl, by rw [HE.out]; exact HOW.out, HX.out⟩
              · rw [if_neg hs0] at e2
                have HE := hid e2
                obtain ⟨XX, hXX⟩ : ∃ XX : ByteArray, XX = ⟨s.toArray⟩ := ⟨_, rfl⟩
                have e1 : XX.toList.isEmpty = false := by
                  rw [hXX, ByteArray.toList_mk]; simpa using hs0
                rw [← hXX] at hc0
                clear e2 HI hst hlt hs0 hXX
                go_wp2
                go_returns
                exact ⟨.slice none 0 0, by rw [HE.out]; rfl, by rw [HE.out]; exact World.ownsRow_nil _ _ _ _, HX.out⟩
theorem hyRead_any (s0 : ByteArray) (many wd : Int) (w : World) :
    Calls Tryz.prog 119 #[.string s0, .int .i64 many, .int .i64 wd] w (NumsOut (Hyb.rdl s0.data.toList many wd).1 (Hyb.rdl s0.data.toList many wd).2 w) :=
  Calls.mono (hyRead_own s0 many wd w) fun _ _ h => NumsOwn.out h
end Go.Proofs.YthgnipangcmanaaGreat
end
section
namespace Hy.Hyb
open Go
theorem len_blk_big (w : Nat) (hw : w ≤ 64) (o : List Nat) : (flat w (shut o)).length ≤ 73 * o.length := by
  by_cases h0 : o = []
  · subst h0; rw [shut_nil, flat_nil]; simp
  · rw [shut_of o h0, flat_cons, flat_nil, List.append_nil, bytes_blk, List.length_append, Bits.packed_len, pad_len, Vary.wr_len]
    have h1 := Vary.beh_le8 (2 * ((o.length + 7) / 8 * 8) / 8 + 1)
    have hpos := List.length_pos_iff.2 h0
    have h2 : (o.length + 7) / 8 * 8 * w ≤ (o.length + 7) / 8 * 8 * 64 := Nat.mul_le_mul_left _ hw
    unfold Bits.size
    omega
theorem len_parts_big (w : Nat) (hw : w ≤ 64) : ∀ (n : Nat) (l o : List Nat), l.length ≤ n → (flat w (parts o l)).length ≤ 73 * (o.length + l.length) := by
  intro n
  induction n with
  | zero =>
    intro l o hn
    obtain rfl : l = [] := List.length_eq_zero_iff.1 (by omega)
    rw [parts_nil]
    have := len_blk_big w hw o
    simp only [List.length_nil]; omega
  | succ n ih =>
    intro l o hn
    cases l with
    | nil => exact ih [] o (by simp)
    | cons x l =>
      by_cases h8 : 8 ≤ row (x :: l)
      · have hrl := row_le (x :: l)
        have hdl : ((x :: l).drop (row (x :: l))).length = (x :: l).length - row (x :: l) := List.length_drop
        rw [parts_run o x l h8]
        generalize row (x :: l) = m at *
        generalize (x :: l).drop m = r at *
        have h2 := ih r [] (by omega)
        have h3 := len_blk_big w hw o
        have h4 := Vary.beh_le8 (2 * m)
        rw [flat_app, flat_cons, List.length_append, List.length_append, bytes_run, List.length_append, Bits.packed_len, Vary.wr_len]
        simp only [List.length_singleton, Bits.size, Nat.one_mul, List.length_nil, Nat.zero_add] at h2 ⊢
        have h5 : (w + 7) / 8 ≤ 8 := by omega
        omega
      · rw [parts_blk o x l (by omega)]
        have e := congrArg List.length (List.take_append_drop 8 (x :: l))
        rw [List.length_append] at e
        have := ih ((x :: l).drop 8) (o ++ (x :: l).take 8) (by simp at hn ⊢; omega)
        rw [List.length_append] at this
        omega
theorem raw_len_big (l : List Nat) (w : Nat) (hw : w ≤ 64) : (raw l w).length ≤ 73 * l.length := by
  have := len_parts_big w hw l.length l [] (Nat.le_refl _)
  simpa [raw] using this
end Hy.Hyb
namespace Go.Proofs.YthgnipangcmanaaGreat
open Go.RowKit Hy
set_option maxHeartbeats 400000 in
theorem sameFrom_any (l : List Nat) (A : Option Addr) (n cap j : Nat) (w : World) (hn : l.length = n) (hr : Rd w A (u64s l)) (hj : j < n) (hnl : n ≤ 2000000) :
    Calls Tryz.prog 133 #[.slice A n cap, .int .i64 j] w fun e w' => e = .returned (.int .i64 (Hyb.row (l.drop j) : Nat)) ∧ Ext w w' := by
  obtain ⟨b1, o1, rfl, l1, c1⟩ := hr.num0 (by omega)
  obtain ⟨y, hy⟩ : ∃ y, l[j]? = some y := ⟨_, List.getElem?_eq_getElem (by omega)⟩
  have hdl : (l.drop j).length = n - j := by rw [List.length_drop, hn]
  have hd0 : (l.drop j)[0]? = some y := by rw [List.getElem?_drop]; exact hy
  have HN := hid hn
  have C1 := hid c1
  have HJ := hid hj
  have hnI : (n : Int) ≤ 2000000 := by omega
  have hjI : (j : Int) < (n : Int) := by omega
  have HS := hid (fun (k x : Nat) (h1 : 1 ≤ k) h2 h3 h4 => Hyb.row_stop (l.drop j) k x y h1 h2 h3 hd0 h4)
  have HE := hid (fun h2 => Hyb.row_end (l.drop j) (by omega) h2)
  rw [hdl] at HE
  have dd0 := c1 j y hy
  obtain ⟨V, hV⟩ : ∃ V, V = Hyb.row (l.drop j) := ⟨_, rfl⟩
  rw [← hV] at HS HE ⊢
  have HY := hid hy
  have HY0 := hid hd0
  have HDP := hid (fun i => show (l.drop j)[i]? = l[j + i]? from List.getElem?_drop)
  clear hr c1 hnl hV hn hj hy hdl hd0
  go_enter Tryz.func133, Tryz.ntmps133
  go_wp2
  go_loopw [5] (fun c wr => ∃ k : Nat, k ≤ n - j ∧ c = .int .i64 k ∧ Hid (∀ i, i < k → (l.drop j)[i]? = (l.drop j)[0]?) ∧ Ext w wr) (fun c _ => n - j - (intOf c).toNat)
  case atStart => exact ⟨0, Nat.zero_le _, rfl, hid (fun i hi => by omega), ext_refl _⟩
  case round =>
    obtain ⟨k, hk, rfl, HT, X⟩ := hrel
    obtain ⟨p, hp⟩ : ∃ p, p = j + k := ⟨_, rfl⟩
    have hpI : (j : Int) + (k : Int) = (p : Int) := by omega
    have hwp : IntKind.i64.wrap (p : Int) = (p : Int) := by rw [IntKind.wrap_i64]; have := HJ.out; omega
    have hpl : (p : Int) ≤ 2000000 := by have := HJ.out; omega
    have d0 := (X.cell (p := ⟨b1, o1 + j, none⟩) l1).trans dd0
    by_cases hlt : k < n - j
    · have hltI : (p : Int) < (n : Int) := by have := HJ.out; omega
      obtain ⟨x, hx⟩ : ∃ x, l[p]? = some x := ⟨_, List.getElem?_eq_getElem (by rw [HN.out]; have := HJ.out; omega)⟩
      have d1 := (X.cell (p := ⟨b1, o1 + p, none⟩) l1).trans (C1.out p x hx)
      have HXX := hid (show (l.drop j)[k]? = some x by rw [HDP.out, ← hp]; exact hx)
      have HK := hid (show k = 0 → x = y from fun h => by rw [hp, h, Nat.add_zero, HY.out] at hx; injection hx with hx; exact hx.symm)
      clear hx dd0 hp
      by_cases hxy : x = y
      · subst hxy
        have hb : ((x : Int) == (x : Int)) = true := by simp
        go_wp2_with fail
        go_quiet (fail)
        go_wp2
        go_roundw
        case rel => exact ⟨k + 1, by omega, by go_num, hid (fun i hi => by
          rcases Nat.lt_or_ge i k with h4 | h4
          · exact HT.out i h4
          · rw [show i = k by omega, HXX.out, HY0.out]), X.draws _⟩
        case measure => simp [intOf]; omega
      · have hb : ((x : Int) == (y : Int)) = false := by rw [beq_eq_false_iff_ne]; omega
        have HK1 := hid (show 1 ≤ k by rcases Nat.eq_zero_or_pos k with h | h; exact absurd (HK.out h) hxy; exact h)
        go_wp2_with fail
        go_quiet (fail)
        go_wp2
        go_returns
        exact ⟨by rw [HS.out k x HK1.out HT.out HXX.out hxy]; rfl, X.draws _⟩
    · have hk2 : k = n - j := by omega
      have hdec : decide (p < n) = false := by have := HJ.out; rw [decide_eq_false_iff_not]; omega
      have HE2 := hid (HE.out (fun i h => HT.out i (by omega)))
      have HK2 := hid hk2
      have hgeI : (n : Int) ≤ (p : Int) := by have := HJ.out; omega
      clear dd0 hp hk2 hlt
      go_wp2_with fail
      go_quiet (fail)
      go_wp2
      go_returns
      exact ⟨by rw [HE2.out, HK2.out]; rfl, X.draws _⟩
theorem rd_mid {w : World} {A : Option Addr} {l : List Nat} {j x cap : Nat} (h : Rd w A (u64s l)) (hc : l.length ≤ cap) (hx : l[j]? = some x) : Rd w (slF A j cap 1) (u64s [x]) := by
  have h1 := h.u64from j cap hc
  obtain ⟨hj, rfl⟩ := List.getElem?_eq_some_iff.1 hx
  rw [List.drop_eq_getElem_cons hj, show l[j] :: l.drop (j + 1) = [l[j]] ++ l.drop (j + 1) from rfl, u64s_app] at h1
  exact h1.pre
set_option maxRecDepth 100000 in
set_option maxHeartbeats 3200000 in
theorem hybridBytes_any (l : List Nat) (A : Option Addr) (n cap wd : Nat) (w : World) (hn : l.length = n) (hr : Rd w A (u64s l)) (hcap : n ≤ cap) (hnl : n ≤ 1048576) (hl : ∀ x ∈ l, x < 2 ^ wd) (hwd : wd ≤ 64) :
    Calls Tryz.prog 92 #[.slice A n cap, .int .i64 wd] w fun e w' => e = .returned (.string ⟨(Hyb.raw l wd).toArray⟩) ∧ Ext w w' := by
  obtain ⟨V, hV⟩ : ∃ V, V = Hyb.raw l wd := ⟨_, rfl⟩
  have HL := hid (show V.length ≤ 100000000 by
    have := Hyb.raw_len_big l wd hwd
    rw [hV]; omega)
  rw [← hV]
  have HV := hid (show V = Hyb.flat wd (Hyb.parts [] (l.drop 0)) by rw [hV]; rfl)
  have HR := hid hr
  have HN := hid hn
  have HNL := hid hnl
  have HLW := hid hl
  have HWD := hid hwd
  have HCAP := hid hcap
  have hnI : (n : Int) ≤ 1048576 := by omega
  have hncI : (n : Int) ≤ (cap : Int) := by omega
  have hwI : (wd : Int) ≤ 64 := by omega
  clear hV hr hn hnl hl hwd hcap
  go_enter Tryz.func92, Tryz.ntmps92
  go_wp2
  go_loopw [5, 6, 7, 8, 9] (fun s a _ _ _ wr => ∃ (j : Nat) (S : ByteArray), j ≤ n + 7 ∧ a = .int .i64 j ∧ s = .string S ∧ Hid (S.data.toList ++ Hyb.flat wd (Hyb.parts [] (l.drop j)) = V) ∧ Ext w wr) (fun _ a _ _ _ _ => n + 7 - (intOf a).toNat)
  case atStart => exact ⟨0, _, by omega, rfl, rfl, hid (by rw [HV.out]; rfl), ext_refl _⟩
  case round =>
    obtain ⟨j, S, hj, rfl, rfl, HS, X⟩ := hrel
    by_cases hlt : j < n
    · have hltI : (j : Int) < (n : Int) := by omega
      have HX := hid X
      have CS := hid (fun wx (hx : Ext w wx) => sameFrom_any l A n cap j wx HN.out (HR.out.keep hx) hlt (by omega))
      obtain ⟨x, hx⟩ : ∃ x, l[j]? = some x := ⟨_, List.getElem?_eq_getElem (by rw [HN.out]; exact hlt)⟩
      have HXX := hid hx
      obtain ⟨m, hm⟩ : ∃ m, m = Hyb.row (l.drop j) := ⟨_, rfl⟩
      have hml : m ≤ n - j := by rw [hm]; have := Hyb.row_le (l.drop j); rw [List.length_drop, HN.out] at this; exact this
      have hmI : (m : Int) ≤ (n : Int) - (j : Int) := by omega
      have hSV : S.data.toList.length ≤ 100000000 := by have h1 := HL.out; rw [← HS.out, List.length_append] at h1; omega
      have hSs : S.size ≤ 100000000 := by have : S.data.toList.length = S.size := Array.length_toList; omega
      by_cases h8 : 8 ≤ m
      · have h8I : (8 : Int) ≤ (m : Int) := by omega
        have HF := hid (Hyb.flat_run l j wd x hx (by rw [← hm]; exact h8))
        rw [← hm] at HF CS
        have HVB := hid (fun wx => varyBytes_any (2 * m) wx (by omega))
        have HPK := hid (fun (wx : World) (hx2 : Ext w wx) => packedOf_any [x] (slF A j cap 1) 1 (cap - j) wd wx rfl (rd_mid (HR.out.keep hx2) (by rw [HN.out]; exact HCAP.out) hx) (fun y hy => by rw [List.mem_singleton] at hy; subst hy; exact HLW.out _ (List.mem_of_getElem? hx)) (by omega) HWD.out)
        have HSM := fun wx : World => sl_mid (P := Tryz.prog) (t := 58) (e := 34) (m := 1) Tryz.underlying58 (by kernel_rfl) A n cap .i64 .i64 j (j + 1) (by omega) (by have := HCAP.out; omega) wx
        rw [show j + 1 - j = 1 by omega] at HSM
        have hj1 : (((j + 1 : Nat) : Nat) : Int) = (j : Int) + 1 := by omega
        simp only [hj1] at HSM
        obtain ⟨R2, hR2⟩ : ∃ R2, R2 = slF A j cap 1 := ⟨_, rfl⟩
        rw [← hR2] at HSM HPK
        obtain ⟨q, hq⟩ : ∃ q, q = 2 * m := ⟨_, rfl⟩
        rw [← hq] at HVB HF
        have hq1 : 2 * (m : Int) = (q : Int) := by omega
        have hqI : (q : Int) ≤ 3000000 := by omega
        have hw2 : IntKind.i64.wrap (q : Int) = (q : Int) := by rw [IntKind.wrap_i64]; omega
        have hw3 : IntKind.u64.wrap (q : Int) = (q : Int) := by rw [IntKind.wrap_u64]; omega
        have hw4 : IntKind.i64.wrap ((j : Int) + 1) = (j : Int) + 1 := by rw [IntKind.wrap_i64]; omega
        obtain ⟨X1b, hX1b⟩ : ∃ X1b : ByteArray, X1b = ⟨(Vary.wr q).toArray⟩ := ⟨_, rfl⟩
        obtain ⟨X2b, hX2b⟩ : ∃ X2b : ByteArray, X2b = ⟨(Bits.packed [x] wd).toArray⟩ := ⟨_, rfl⟩
        have hz1 : X1b.size ≤ 9 := by rw [hX1b, str_size, Vary.wr_len]; have := Vary.beh_le8 q; omega
        have hz2 : X2b.size ≤ 100000000 := by
          rw [hX2b, str_size, Bits.packed_len, List.length_singleton]
          have := HWD.out; unfold Bits.size; omega
        have HSV := hid (show (S ++ (X1b ++ X2b)).data.toList ++ Hyb.flat wd (Hyb.parts [] (l.drop (j + m))) = V by rw [← HS.out, HF.out, hX1b, hX2b]; simp)
        rw [← hX1b] at HVB
        rw [← hX2b] at HPK
        clear hlt hx hm hml hSV h8 hq hX1b hX2b hR2 X
        go_wp2_with fail
        refine Calls.mono (CS.out _ HX.out) ?_
        rintro e w1 ⟨rfl, hx⟩
        have HX1 := hid (HX.out.then hx)
        clear hx HX
        go_wp2
        refine wp_region_walk [(0, true), (1, true), (2, true), (3, true), (5, true), (6, true), (7, true), (8, true), (9, true), (10, true), (4, false), (11, false), (12, true), (13, true), (14, true)] (by kernel_rfl) (by kernel_rfl) (fun _ _ _ _ _ h => h) (by kernel_rfl) (by rfl) ?_
        simp only [List.filterMap_cons, List.filterMap_nil, List.getElem?_toArray, List.getElem?_cons_zero, List.getElem?_cons_succ, Option.map_some]
        repeat (refine wpM_val (by rfl) ?_; intro K hK; go_big_quiet_op; go_big_quiet_on)
        have Y1 : Ext w1 w1.drew := Ext.draw (ext_refl w1)
        refine wpM_do (by rfl) ?_
        intro K hK
        go_simp
        refine Calls.mono (HVB.out _) ?_
        rintro e w2 ⟨rfl, hx⟩
        have Y2 := Y1.then hx
        refine hK _ _ Y2 ?_
        clear K hK hx
        refine wpM_do (by rfl) ?_
        intro K hK
        go_simp
        refine Calls.mono (HPK.out _ (HX1.out.then Y2)) ?_
        rintro e w3 ⟨rfl, hx⟩
        have Y3 := Y2.then hx
        refine hK _ _ Y3 ?_
        clear K hK hx
        repeat (refine wpM_val (by rfl) ?_; intro K hK; go_big_quiet_op; go_big_quiet_on)
        refine wpM_nil ?_
        have HXE := hid (HX1.out.then Y3)
        clear Y1 Y2 Y3
        go_wp2
        go_roundw
        case rel => exact ⟨j + m, _, by omega, by go_num, rfl, HSV, HXE.out⟩
        case measure => simp [intOf]; omega
      · have h8I : (m : Int) < 8 := by omega
        rw [← hm] at CS
        have HM8 := hid (show Hyb.row (l.drop j) < 8 by rw [← hm]; omega)
        have HLT := hid hlt
        clear hx hm hml hSV h8 X
        go_wp2_with fail
        refine Calls.mono (CS.out _ HX.out) ?_
        rintro e w1 ⟨rfl, hx⟩
        have HXA := hid (HX.out.then hx)
        clear hx HX hlt
        go_wp2
        go_loopw [6, 8, 9] (fun a v _ wr => ∃ (i : Nat) (B : List Nat), i ≤ n + 7 ∧ j ≤ i ∧ a = .int .i64 i ∧ Hid (wr.ownsRow w.heap.size 34 1 v B.length (u64s B)) ∧ Hid (Hyb.Open l j i B) ∧ Ext w wr) (fun a _ _ _ => n + 7 - (intOf a).toNat)
        case atStart => exact ⟨j, [], hj, Nat.le_refl _, rfl, hid (World.ownsRow_nil _ _ _ _), hid (Hyb.open_start l j), HXA.out⟩
        case round =>
          obtain ⟨i, B, hi, hji, rfl, HOW, HOP, X⟩ := hrel
          have HX1 := hid X
          clear X
          have HOL := hid (Hyb.open_len HOP.out)
          have hB1 : B.length ≤ 1048583 := by have := HOL.out; have := HN.out; have := HNL.out; omega
          by_cases hlt : i < n
          · have hltI : (i : Int) < (n : Int) := by omega
            have CS2 := hid (fun wx (hx : Ext w wx) => sameFrom_any l A n cap i wx HN.out (HR.out.keep hx) hlt (by omega))
            by_cases h8 : Hyb.row (l.drop i) < 8
            · have HST := hid (Hyb.open_step HOP.out (by rw [HN.out]; exact hlt) h8)
              obtain ⟨m2, hm2⟩ : ∃ m2, m2 = Hyb.row (l.drop i) := ⟨_, rfl⟩
              rw [← hm2] at CS2 h8
              have h8J : (m2 : Int) < 8 := by omega
              have hc0 : Hyb.chunk (l.drop i) 0 = [] := Hyb.chunk_zero _
              clear hm2 h8 HOL
              go_wp2_with fail
              refine Calls.mono (CS2.out _ HX1.out) ?_
              rintro e w4 ⟨rfl, Y2⟩
              have X1 := HX1.out.then Y2
              replace HOW := hid (own_ext HOW.out Y2)
              clear Y2 HX1
              go_wp2
              go_loopw [6, 8, 9] (fun a v c wr => ∃ k : Nat, k ≤ 8 ∧ c = .int .i64 k ∧ a = .int .i64 ((i + k : Nat) : Int) ∧ Hid (wr.ownsRow w.heap.size 34 1 v (B ++ Hyb.chunk (l.drop i) k).length (u64s (B ++ Hyb.chunk (l.drop i) k))) ∧ Ext w wr) (fun _ _ c _ => 8 - (intOf c).toNat)
              case atStart => exact ⟨0, by omega, rfl, rfl, by rw [hc0, List.append_nil]; exact HOW, X1⟩
              case round =>
                obtain ⟨k, hk, rfl, rfl, HO, X⟩ := hrel
                by_cases hk8 : k < 8
                · have hk8I : (k : Int) < 8 := by omega
                  have hsz := Hyb.chunk_len (l.drop i) k
                  obtain ⟨p, hp⟩ : ∃ p, p = i + k := ⟨_, rfl⟩
                  rw [← hp]
                  have hpI : (p : Int) ≤ 3000000 := by omega
                  have hpi : (p : Int) + 1 = ((i + (k + 1) : Nat) : Int) := by omega
                  by_cases hpn : p < n
                  · have hpnI : (p : Int) < (n : Int) := by omega
                    obtain ⟨y, hy⟩ : ∃ y, l[p]? = some y := ⟨_, List.getElem?_eq_getElem (by rw [HN.out]; exact hpn)⟩
                    have HCH := hid (Hyb.chunk_in (l.drop i) k y (by rw [List.getElem?_drop, ← hp]; exact hy))
                    obtain ⟨b1, o1, rfl, l1, c1⟩ := HR.out.num0 (by rw [HN.out]; omega)
                    have d0 := (X.cell (p := ⟨b1, o1 + p, none⟩) l1).trans (c1 p y hy)
                    obtain ⟨Q, hQ⟩ : ∃ Q, Q = B ++ Hyb.chunk (l.drop i) k := ⟨_, rfl⟩
                    rw [← hQ] at HO
                    have HQ1 := hid (show B ++ Hyb.chunk (l.drop i) (k + 1) = Q ++ [y] by rw [hQ, HCH.out, List.append_assoc])
                    have hQl : Q.length ≤ 3000000 := by rw [hQ, List.length_append, hsz]; omega
                    have HQL := hid hQl
                    clear c1 hy hQ hQl hsz hp hc0
                    go_wp2_with (at_builtin; refine wpList_app rfl (.tmp 54) (.tmp 59) rowU64 rfl _ Q.length _ rfl (own_ext HO.out ((ext_refl _).new _)) _ 1 (u64s [y]) rfl (Src.rd Tryz.underlying58 _ 1 1 _ rfl (rd_lit rfl rfl) (u64s_one _) (fun h => by cases h)) (by have := HQL.out; unfold maxLen; omega) (by have := HQL.out; omega) (by have := X.size; simp; omega) ?_; intro v' w3 hown3 hgrow hat hbel; have O3 := hid hown3; have X3 := hid ((X.new _).trans hbel); clear hown3 hgrow hat hbel)
                    go_roundw
                    case rel => exact ⟨k + 1, by omega, by go_num, by go_num, hid (by rw [HQ1.out, List.length_append, u64s_app]; exact O3.out), X3.out⟩
                    case measure => simp [intOf]; omega
                  · have hpnI : ¬ (p : Int) < (n : Int) := by omega
                    have HCH := hid (Hyb.chunk_out (l.drop i) k (by rw [List.length_drop, HN.out]; omega))
                    obtain ⟨Q, hQ⟩ : ∃ Q, Q = B ++ Hyb.chunk (l.drop i) k := ⟨_, rfl⟩
                    rw [← hQ] at HO
                    have HQ1 := hid (show B ++ Hyb.chunk (l.drop i) (k + 1) = Q ++ [0] by rw [hQ, HCH.out, List.append_assoc])
                    have hQl : Q.length ≤ 3000000 := by rw [hQ, List.length_append, hsz]; omega
                    have HQL := hid hQl
                    clear hQ hQl hsz hp hc0
                    go_wp2_with (at_builtin; refine wpList_app rfl (.tmp 61) (.tmp 62) rowU64 rfl _ Q.length _ rfl (own_ext HO.out ((ext_refl _).new _)) _ 1 (u64s [0]) rfl (Src.rd Tryz.underlying58 _ 1 1 _ rfl (rd_lit rfl rfl) (u64s_one _) (fun h => by cases h)) (by have := HQL.out; unfold maxLen; omega) (by have := HQL.out; omega) (by have := X.size; simp; omega) ?_; intro v' w3 hown3 hgrow hat hbel; have O3 := hid hown3; have X3 := hid ((X.new _).trans hbel); clear hown3 hgrow hat hbel)
                    go_roundw
                    case rel => exact ⟨k + 1, by omega, by go_num, by go_num, hid (by rw [HQ1.out, List.length_append, u64s_app]; exact O3.out), X3.out⟩
                    case measure => simp [intOf]; omega
                · obtain rfl : k = 8 := by omega
                  go_wp2
                  go_roundw
                  case rel => exact ⟨i + 8, B ++ Hyb.chunk (l.drop i) 8, by omega, by omega, rfl, HO, HST, X⟩
                  case measure => simp [intOf]; omega
            · have HROW := hid (show i < l.length → 8 ≤ Hyb.row (l.drop i) from fun _ => by omega)
              have HNE := hid (show i ≠ j from fun e => by have := HM8.out; rw [← e] at this; omega)
              obtain ⟨m2, hm2⟩ : ∃ m2, m2 = Hyb.row (l.drop i) := ⟨_, rfl⟩
              rw [← hm2] at CS2 h8
              have h8J : ¬ (m2 : Int) < 8 := by omega
              have hdec1 : decide (m2 < 8) = false := by simp; omega
              clear hm2 h8 HOL hB1
              go_wp2_with fail
              refine Calls.mono (CS2.out _ HX1.out) ?_
              rintro e w4 ⟨rfl, Y2⟩
              have X1 := HX1.out.then Y2
              replace HOW := hid (own_ext HOW.out Y2)
              clear Y2 HX1
              have HOE := hid (Hyb.open_end (w := wd) HOP.out HNE.out HROW.out)
              have HOL := hid (Hyb.open_len HOP.out)
              have HBLT := hid (Hyb.open_lt HOP.out wd HLW.out)
              obtain ⟨A2, c2, rfl, hrdb, _⟩ := Rd.owned HOW.out
              have HRB := hid hrdb
              have hB64 : B.length ≤ 1048583 := by have := HOL.out; have := HN.out; have := HNL.out; omega
              have HPK := hid (fun (wx : World) (h2 : Rd wx A2 (u64s B)) => packedOf_any B A2 B.length c2 wd wx rfl h2 HBLT.out (by omega) HWD.out)
              obtain ⟨q, hq⟩ : ∃ q, q = B.length / 8 * 2 + 1 := ⟨_, rfl⟩
              have HVB := hid (fun wx => varyBytes_any q wx (by omega))
              have hq1 : (B.length : Int) / 8 * 2 + 1 = (q : Int) := by omega
              have hq2 : (B.length : Int).tdiv 8 * 2 + 1 = (q : Int) := by rw [Int.tdiv_eq_ediv_of_nonneg (by omega)]; omega
              have hq3 : (B.length : Int) / 8 * 2 = (q : Int) - 1 := by omega
              have hq4 : (B.length : Int).tdiv 8 * 2 = (q : Int) - 1 := by rw [Int.tdiv_eq_ediv_of_nonneg (by omega)]; omega
              have hqI : (q : Int) ≤ 3000000 := by omega
              have hq0 : (1 : Int) ≤ (q : Int) := by omega
              have hw2 : IntKind.i64.wrap (q : Int) = (q : Int) := by rw [IntKind.wrap_i64]; omega
              have hw3 : IntKind.u64.wrap (q : Int) = (q : Int) := by rw [IntKind.wrap_u64]; omega
              have hw4 : IntKind.i64.wrap ((q : Int) - 1) = (q : Int) - 1 := by rw [IntKind.wrap_i64]; omega
              have hw5 : IntKind.i64.wrap ((q : Int) - 1 + 1) = (q : Int) := by rw [IntKind.wrap_i64]; omega
              have hw6 : (q : Int) - 1 + 1 = (q : Int) := by omega
              obtain ⟨bl, hbl⟩ : ∃ bl, bl = B.length := ⟨_, rfl⟩
              rw [← hbl] at HPK hq1 hq2 hq3 hq4 ⊢
              have hblI : (bl : Int) ≤ 1048583 := by omega
              have hwb1 : IntKind.i64.wrap ((bl : Int) / 8) = (bl : Int) / 8 := by rw [IntKind.wrap_i64]; omega
              have hwb2 : IntKind.i64.wrap ((bl : Int).tdiv 8) = (bl : Int).tdiv 8 := by rw [IntKind.wrap_i64, Int.tdiv_eq_ediv_of_nonneg (by omega)]; omega
              obtain ⟨X1b, hX1b⟩ : ∃ X1b : ByteArray, X1b = ⟨(Vary.wr q).toArray⟩ := ⟨_, rfl⟩
              obtain ⟨X2b, hX2b⟩ : ∃ X2b : ByteArray, X2b = ⟨(Bits.packed B wd).toArray⟩ := ⟨_, rfl⟩
              have hz1 : X1b.size ≤ 9 := by rw [hX1b, str_size, Vary.wr_len]; have := Vary.beh_le8 q; omega
              have hz2 : X2b.size ≤ 100000000 := by
                rw [hX2b, str_size, Bits.packed_len]
                have h := Nat.mul_le_mul hB64 HWD.out
                unfold Bits.size; omega
              have HSV := hid (show (S ++ (X1b ++ X2b)).data.toList ++ Hyb.flat wd (Hyb.parts [] (l.drop i)) = V by rw [← HS.out, HOE.out, hX1b, hX2b, hq]; simp)
              rw [← hX1b] at HVB
              rw [← hX2b] at HPK
              have HJI := hid hji
              have HIN := hid hi
              have HX1 := hid X1
              clear hrdb hB64 hq hX1b hX2b HOE HOL HBLT HOW hji hi X1 hbl
              go_wp2_with fail
              refine Calls.mono (HVB.out _) ?_
              rintro e w2 ⟨rfl, Y2⟩
              go_wp2_with fail
              refine Calls.mono (HPK.out _ (HRB.out.keep Y2)) ?_
              rintro e w3 ⟨rfl, hx⟩
              have Y3 := Ext.then Y2 hx
              clear hx
              have HXE := hid (HX1.out.then Y3)
              clear Y2 Y3
              go_wp2
              go_roundw
              case rel => exact ⟨i, _, HIN.out, rfl, rfl, HSV, HXE.out⟩
              case measure => have h1 := HJI.out; have h2 := HNE.out; have h3 := HIN.out; simp [intOf]; omega
          · have HROW := hid (show i < l.length → 8 ≤ Hyb.row (l.drop i) from fun h => by rw [HN.out] at h; omega)
            have HNE := hid (show i ≠ j from fun e => by have := HLT.out; omega)
            have hdec1 : decide (i < n) = false := by simp; omega
            have hge : (n : Int) ≤ (i : Int) := by omega
            clear hlt HOL hB1
            have X1 := HX1.out
            clear HX1
            have HOE := hid (Hyb.open_end (w := wd) HOP.out HNE.out HROW.out)
            have HOL := hid (Hyb.open_len HOP.out)
            have HBLT := hid (Hyb.open_lt HOP.out wd HLW.out)
            obtain ⟨A2, c2, rfl, hrdb, _⟩ := Rd.owned HOW.out
            have HRB := hid hrdb
            have hB64 : B.length ≤ 1048583 := by have := HOL.out; have := HN.out; have := HNL.out; omega
            have HPK := hid (fun (wx : World) (h2 : Rd wx A2 (u64s B)) => packedOf_any B A2 B.length c2 wd wx rfl h2 HBLT.out (by omega) HWD.out)
            obtain ⟨q, hq⟩ : ∃ q, q = B.length / 8 * 2 + 1 := ⟨_, rfl⟩
            have HVB := hid (fun wx => varyBytes_any q wx (by omega))
            have hq1 : (B.length : Int) / 8 * 2 + 1 = (q : Int) := by omega
            have hq2 : (B.length : Int).tdiv 8 * 2 + 1 = (q : Int) := by rw [Int.tdiv_eq_ediv_of_nonneg (by omega)]; omega
            have hq3 : (B.length : Int) / 8 * 2 = (q : Int) - 1 := by omega
            have hq4 : (B.length : Int).tdiv 8 * 2 = (q : Int) - 1 := by rw [Int.tdiv_eq_ediv_of_nonneg (by omega)]; omega
            have hqI : (q : Int) ≤ 3000000 := by omega
            have hq0 : (1 : Int) ≤ (q : Int) := by omega
            have hw2 : IntKind.i64.wrap (q : Int) = (q : Int) := by rw [IntKind.wrap_i64]; omega
            have hw3 : IntKind.u64.wrap (q : Int) = (q : Int) := by rw [IntKind.wrap_u64]; omega
            have hw4 : IntKind.i64.wrap ((q : Int) - 1) = (q : Int) - 1 := by rw [IntKind.wrap_i64]; omega
            have hw5 : IntKind.i64.wrap ((q : Int) - 1 + 1) = (q : Int) := by rw [IntKind.wrap_i64]; omega
            have hw6 : (q : Int) - 1 + 1 = (q : Int) := by omega
            obtain ⟨bl, hbl⟩ : ∃ bl, bl = B.length := ⟨_, rfl⟩
            rw [← hbl] at HPK hq1 hq2 hq3 hq4 ⊢
            have hblI : (bl : Int) ≤ 1048583 := by omega
            have hwb1 : IntKind.i64.wrap ((bl : Int) / 8) = (bl : Int) / 8 := by rw [IntKind.wrap_i64]; omega
            have hwb2 : IntKind.i64.wrap ((bl : Int).tdiv 8) = (bl : Int).tdiv 8 := by rw [IntKind.wrap_i64, Int.tdiv_eq_ediv_of_nonneg (by omega)]; omega
            obtain ⟨X1b, hX1b⟩ : ∃ X1b : ByteArray, X1b = ⟨(Vary.wr q).toArray⟩ := ⟨_, rfl⟩
            obtain ⟨X2b, hX2b⟩ : ∃ X2b : ByteArray, X2b = ⟨(Bits.packed B wd).toArray⟩ := ⟨_, rfl⟩
            have hz1 : X1b.size ≤ 9 := by rw [hX1b, str_size, Vary.wr_len]; have := Vary.beh_le8 q; omega
            have hz2 : X2b.size ≤ 100000000 := by
              rw [hX2b, str_size, Bits.packed_len]
              have h := Nat.mul_le_mul hB64 HWD.out
              unfold Bits.size; omega
            have HSV := hid (show (S ++ (X1b ++ X2b)).data.toList ++ Hyb.flat wd (Hyb.parts [] (l.drop i)) = V by rw [← HS.out, HOE.out, hX1b, hX2b, hq]; simp)
            rw [← hX1b] at HVB
            rw [← hX2b] at HPK
            have HJI := hid hji
            have HIN := hid hi
            have HX1 := hid X1
            clear hrdb hB64 hq hX1b hX2b HOE HOL HBLT HOW hji hi X1 hbl
            go_wp2_with fail
            refine Calls.mono (HVB.out _) ?_
            rintro e w2 ⟨rfl, Y2⟩
            go_wp2_with fail
            refine Calls.mono (HPK.out _ (HRB.out.keep Y2)) ?_
            rintro e w3 ⟨rfl, hx⟩
            have Y3 := Ext.then Y2 hx
            clear hx
            have HXE := hid (HX1.out.then Y3)
            clear Y2 Y3
            go_wp2
            go_roundw
            case rel => exact ⟨i, _, HIN.out, rfl, rfl, HSV, HXE.out⟩
            case measure => have h1 := HJI.out; have h2 := HNE.out; have h3 := HIN.out; simp [intOf]; omega
    · have hge : (n : Int) ≤ (j : Int) := by omega
      have HE := hid (show S = ⟨V.toArray⟩ from by
        have h1 := HS.out
        rw [List.drop_eq_nil_of_le (by rw [HN.out]; omega), Hyb.parts_nil, Hyb.shut_nil, Hyb.flat_nil, List.append_nil] at h1
        rw [← h1])
      clear hlt
      go_wp2
      go_returns
      exact ⟨by rw [← HE.out]; rfl, X⟩
end Go.Proofs.YthgnipangcmanaaGreat
end
section
namespace Hy.Hyb
open Go
def nums (T : List UInt8) (many w : Nat) : List Nat := Bits.unp (T.take (Bits.size many w)) many w
theorem nums_len (T : List UInt8) (many w : Nat) : (nums T many w).length = many := Bits.unp_len _ _ _
end Hy.Hyb
end
section
namespace Hy.Hyb
open Go
theorem rdF_len (w many : Nat) : ∀ (f : Nat) (s : List UInt8) (o : List Nat), o.length ≤ many → (rdF w many f s o).1.length ≤ many
  | 0, s, o, h => by
    rw [rdF]
    split
    · split <;> simp [h]
    · simp
  | f + 1, s, o, h => by
    rw [rdF]
    split
    · split <;> simp [h]
    · rename_i hlt
      split
      · simp
      · rename_i h0
        refine rdF_len w many f _ _ ?_
        have := stp_len (w := w) (left := many - o.length) (s := s) (by omega) (by omega)
        rw [List.length_append]; omega
theorem rdl_len (s : List UInt8) (many w : Int) : (rdl s many w).1.length ≤ 64 := by
  unfold rdl
  split
  · simp
  · split
    · simp
    · have := rdF_len w.toNat many.toNat many.toNat s [] (by simp)
      omega
theorem rdl_raw {l : List Nat} {k : Nat} (hk : k ≤ 64) (hn : l.length ≤ 64) (hl : ∀ x ∈ l, x < 2 ^ k) (t : List UInt8) : rdl (raw l k ++ t) l.length k = if t = [] then (l, 0) else ([], 1) := by
  rw [rdl_in hk hn]
  have := rd_parts k l.length hk hn l.length l [] [] t l.length (Nat.le_refl _) (by simpa using hl) (.inl rfl) (by simp) (by simp)
  simpa [raw] using this
end Hy.Hyb
end
