/- Hybrid: the reader: a part: walk, one theorem a way (printed by gen_hpart.py). -/
import Derived.Test.YtdblegdbfdhepaaHye
namespace Go.Proofs.Ytdblegdbfdhepaa
open Go.RowKit Hy
theorem HyRd.keep {g : Nat} {w w' : World} {s : List UInt8} {wd want : Nat} {o : List Nat} {v : Value} (h : HyRd g w s wd want o v) (hx : Ext w w') : HyRd g w' s wd want o v := ⟨h.1.keep hx, own_ext h.2 hx⟩
/-- what a part answers -/
def HyPart (g : Nat) (s : List UInt8) (wd want : Nat) (o : List Nat) (w : World) (e : Ending) (w' : World) : Prop :=
  e = .returned (.int .i64 ((Hyb.stp wd (want - o.length) s).1 : Nat)) ∧ Below g w w' ∧ ((Hyb.stp wd (want - o.length) s).1 = 0 → ∃ v, HyRd g w' (s.drop (Hyb.stp wd (want - o.length) s).2.2) wd want (o ++ (Hyb.stp wd (want - o.length) s).2.1) v)
set_option maxRecDepth 100000 in
set_option maxHeartbeats 1600000 in
theorem hyPart_bad (s : List UInt8) (wd want : Nat) (o : List Nat) (vo : Value) (g : Nat) (w : World) (a k e : Nat) (hrd : Vary.rd s = (a, k, e)) (he : e ≠ 0) (h : HyRd g w s wd want o vo) (ho : o.length < want) (hwt : want ≤ 64) :
    Calls Try.prog 56 #[.pointer (some ⟨g, 0, none⟩)] w (HyPart g s wd want o w) := by
  obtain ⟨hB, hO⟩ := h
  have HO := hid hO
  obtain ⟨XX, hXX⟩ : ∃ XX : ByteArray, XX = ⟨s.toArray⟩ := ⟨_, rfl⟩
  have hXs : XX.size = s.length := by rw [hXX, str_size]
  have HXd := hid (show XX.data.toList = s by rw [hXX])
  rw [← hXX] at hB
  have HB := hid hB
  have hc0 := hB.cell 0
  have hf0 := hB.frozen 0
  have HLT := hid hB.lt
  obtain ⟨lf, hlf⟩ : ∃ lf, lf = want - o.length := ⟨_, rfl⟩
  have hlfI : (want : Int) - (o.length : Int) = (lf : Int) := by omega
  have hlf1 : 1 ≤ lf := by omega
  have hlf64 : lf ≤ 64 := by omega
  unfold HyPart
  rw [← hlf]
  have CR : ∀ wx : World, Hid (Calls Try.prog 79 #[.string XX] wx fun e' w' => e' = .returned (.tuple #[.int .u64 a, .int .i64 k, .int .i64 e]) ∧ Ext wx w') := fun wx => by
    have := read_any XX wx
    rw [HXd.out, hrd] at this
    exact hid this
  rw [Hyb.stp_bad hrd he]
  have h3 : ((e : Int) != 0) = true := by rw [bne_iff_ne]; omega
  have h4 : ((e : Int) == 0) = false := by rw [beq_eq_false_iff_ne]; omega
  have HE := hid he
  clear hB hO hXX hlf hlf1 hlf64 hrd ho hwt he
  go_enter Try.func56, Try.ntmps56
  go_wp2_with fail
  refine Calls.mono (CR _).out ?_
  rintro e w1 ⟨rfl, hx⟩
  go_wp2
  go_returns
  exact ⟨rfl, hx.mono (Nat.le_of_lt HLT.out), fun h => absurd h HE.out⟩
set_option maxRecDepth 100000 in
set_option maxHeartbeats 1600000 in
theorem hyPart_low0 (s : List UInt8) (wd want : Nat) (o : List Nat) (vo : Value) (g : Nat) (w : World) (a k e : Nat) (hrd : Vary.rd s = (a, k, e)) (he : e = 0) (hp : a % 2 = 0) (hlow : a < 2) (h : HyRd g w s wd want o vo) (ho : o.length < want) (hwt : want ≤ 64) :
    Calls Try.prog 56 #[.pointer (some ⟨g, 0, none⟩)] w (HyPart g s wd want o w) := by
  obtain ⟨hB, hO⟩ := h
  have HO := hid hO
  obtain ⟨XX, hXX⟩ : ∃ XX : ByteArray, XX = ⟨s.toArray⟩ := ⟨_, rfl⟩
  have hXs : XX.size = s.length := by rw [hXX, str_size]
  have HXd := hid (show XX.data.toList = s by rw [hXX])
  rw [← hXX] at hB
  have HB := hid hB
  have hc0 := hB.cell 0
  have hf0 := hB.frozen 0
  have HLT := hid hB.lt
  obtain ⟨lf, hlf⟩ : ∃ lf, lf = want - o.length := ⟨_, rfl⟩
  have hlfI : (want : Int) - (o.length : Int) = (lf : Int) := by omega
  have hlf1 : 1 ≤ lf := by omega
  have hlf64 : lf ≤ 64 := by omega
  unfold HyPart
  rw [← hlf]
  have CR : ∀ wx : World, Hid (Calls Try.prog 79 #[.string XX] wx fun e' w' => e' = .returned (.tuple #[.int .u64 a, .int .i64 k, .int .i64 e]) ∧ Ext wx w') := fun wx => by
    have := read_any XX wx
    rw [HXd.out, hrd] at this
    exact hid this
  subst he
  obtain ⟨r1, r2, r3, r4, _⟩ := Vary.rd_ok (s := s) (by rw [hrd])
  rw [hrd] at r1 r2 r3 r4
  simp only at r1 r2 r3 r4
  have hT := fun wx : World => run_from (P := Try.prog) (w := wx) Try.underlying9 XX .i64 k (by omega)
  rw [HXd.out] at hT
  obtain ⟨XD, hXD⟩ : ∃ XD : ByteArray, XD = ⟨(s.drop k).toArray⟩ := ⟨_, rfl⟩
  rw [← hXD] at hT
  have HXD := hid hXD
  have haI : (a : Int) ≤ 18446744073709551615 := by omega
  obtain ⟨q, hq⟩ : ∃ q, q = a / 2 := ⟨_, rfl⟩
  have hq1 : (a : Int) / 2 = (q : Int) := by omega
  have hq2 : (a : Int).tdiv 2 = (q : Int) := by rw [Int.tdiv_eq_ediv_of_nonneg (by omega)]; omega
  have hqI : (q : Int) ≤ 9223372036854775807 := by omega
  obtain ⟨mo, hmo⟩ : ∃ mo, mo = (lf + 7) / 8 := ⟨_, rfl⟩
  have hmo1 : ((lf : Int) + 8 - 1) / 8 = (mo : Int) := by omega
  have hmo2 : ((lf : Int) + 8 - 1).tdiv 8 = (mo : Int) := by rw [Int.tdiv_eq_ediv_of_nonneg (by omega)]; omega
  have hmo3 : ((lf : Int) + 7) / 8 = (mo : Int) := by omega
  have hmo4 : ((lf : Int) + 7).tdiv 8 = (mo : Int) := by rw [Int.tdiv_eq_ediv_of_nonneg (by omega)]; omega
  have hmoI : (mo : Int) ≤ 8 := by omega
  have hlfI2 : (lf : Int) ≤ 64 := by omega
  have hkI : (k : Int) ≤ 9 := by omega
  have hu1 : IntKind.u64.wrap (mo : Int) = (mo : Int) := by rw [IntKind.wrap_u64]; omega
  have hu2 : IntKind.u64.wrap (lf : Int) = (lf : Int) := by rw [IntKind.wrap_u64]; omega
  have hu3 : IntKind.i64.wrap (q : Int) = (q : Int) := by rw [IntKind.wrap_i64]; omega
  have hp1 : (a : Int) % 2 = 0 := by omega
  have hp2 : (a : Int).tmod 2 = 0 := by rw [Int.tmod_eq_emod_of_nonneg (by omega)]; omega
  rw [Hyb.stp_low hrd hlow]
  have hq0 : q = 0 := by omega
  subst hq0
  clear hB hO hXX hlf hlf1 hlf64 hrd r1 r2 r3 r4 hq hmo ho hwt hlow hp
  go_enter Try.func56, Try.ntmps56
  go_wp2_with fail
  refine Calls.mono (CR _).out ?_
  rintro e w1 ⟨rfl, hx⟩
  have HX := hid hx
  have HB1 := hid (HB.out.keep hx)
  have hc0 := HB1.out.cell 0
  have hf0 := HB1.out.frozen 0
  clear hx
  go_wp2
  refine wp_gen (fun wy => HyRd g wy (s.drop k) wd want o vo ∧ But g w wy) ⟨⟨by rw [← HXD.out]; exact (HB1.out.set 0 _).cast rfl, own_but (own_ext HO.out HX.out) (but_put _ _ _) (Nat.lt_succ_self _)⟩, ((but_refl g w).ext HX.out).put _ (.inl rfl) _⟩ ?_
  rintro w2 ⟨hst, hbut⟩
  have HST := hid hst
  have HBT := hid hbut
  have hd2 := hst.1.cell 2
  have hd3 := hst.1.cell 3
  obtain ⟨A2, c2, rfl, _⟩ := Rd.owned hst.2
  clear hst hbut hc0 hf0
  go_quiet (fail)
  go_wp2
  go_returns
  exact ⟨rfl, (HBT.out.draws _).below (Nat.le_refl _) (Nat.le_of_lt HLT.out), fun h => by cases h⟩
set_option maxRecDepth 100000 in
set_option maxHeartbeats 1600000 in
theorem hyPart_over0 (s : List UInt8) (wd want : Nat) (o : List Nat) (vo : Value) (g : Nat) (w : World) (a k e : Nat) (hrd : Vary.rd s = (a, k, e)) (he : e = 0) (hp : a % 2 = 0) (hlow : 2 ≤ a) (hov : want - o.length < a / 2) (h : HyRd g w s wd want o vo) (ho : o.length < want) (hwt : want ≤ 64) :
    Calls Try.prog 56 #[.pointer (some ⟨g, 0, none⟩)] w (HyPart g s wd want o w) := by
  obtain ⟨hB, hO⟩ := h
  have HO := hid hO
  obtain ⟨XX, hXX⟩ : ∃ XX : ByteArray, XX = ⟨s.toArray⟩ := ⟨_, rfl⟩
  have hXs : XX.size = s.length := by rw [hXX, str_size]
  have HXd := hid (show XX.data.toList = s by rw [hXX])
  rw [← hXX] at hB
  have HB := hid hB
  have hc0 := hB.cell 0
  have hf0 := hB.frozen 0
  have HLT := hid hB.lt
  obtain ⟨lf, hlf⟩ : ∃ lf, lf = want - o.length := ⟨_, rfl⟩
  have hlfI : (want : Int) - (o.length : Int) = (lf : Int) := by omega
  have hlf1 : 1 ≤ lf := by omega
  have hlf64 : lf ≤ 64 := by omega
  unfold HyPart
  rw [← hlf]
  have CR : ∀ wx : World, Hid (Calls Try.prog 79 #[.string XX] wx fun e' w' => e' = .returned (.tuple #[.int .u64 a, .int .i64 k, .int .i64 e]) ∧ Ext wx w') := fun wx => by
    have := read_any XX wx
    rw [HXd.out, hrd] at this
    exact hid this
  subst he
  obtain ⟨r1, r2, r3, r4, _⟩ := Vary.rd_ok (s := s) (by rw [hrd])
  rw [hrd] at r1 r2 r3 r4
  simp only at r1 r2 r3 r4
  have hT := fun wx : World => run_from (P := Try.prog) (w := wx) Try.underlying9 XX .i64 k (by omega)
  rw [HXd.out] at hT
  obtain ⟨XD, hXD⟩ : ∃ XD : ByteArray, XD = ⟨(s.drop k).toArray⟩ := ⟨_, rfl⟩
  rw [← hXD] at hT
  have HXD := hid hXD
  have haI : (a : Int) ≤ 18446744073709551615 := by omega
  obtain ⟨q, hq⟩ : ∃ q, q = a / 2 := ⟨_, rfl⟩
  have hq1 : (a : Int) / 2 = (q : Int) := by omega
  have hq2 : (a : Int).tdiv 2 = (q : Int) := by rw [Int.tdiv_eq_ediv_of_nonneg (by omega)]; omega
  have hqI : (q : Int) ≤ 9223372036854775807 := by omega
  obtain ⟨mo, hmo⟩ : ∃ mo, mo = (lf + 7) / 8 := ⟨_, rfl⟩
  have hmo1 : ((lf : Int) + 8 - 1) / 8 = (mo : Int) := by omega
  have hmo2 : ((lf : Int) + 8 - 1).tdiv 8 = (mo : Int) := by rw [Int.tdiv_eq_ediv_of_nonneg (by omega)]; omega
  have hmo3 : ((lf : Int) + 7) / 8 = (mo : Int) := by omega
  have hmo4 : ((lf : Int) + 7).tdiv 8 = (mo : Int) := by rw [Int.tdiv_eq_ediv_of_nonneg (by omega)]; omega
  have hmoI : (mo : Int) ≤ 8 := by omega
  have hlfI2 : (lf : Int) ≤ 64 := by omega
  have hkI : (k : Int) ≤ 9 := by omega
  have hu1 : IntKind.u64.wrap (mo : Int) = (mo : Int) := by rw [IntKind.wrap_u64]; omega
  have hu2 : IntKind.u64.wrap (lf : Int) = (lf : Int) := by rw [IntKind.wrap_u64]; omega
  have hu3 : IntKind.i64.wrap (q : Int) = (q : Int) := by rw [IntKind.wrap_i64]; omega
  have hp1 : (a : Int) % 2 = 0 := by omega
  have hp2 : (a : Int).tmod 2 = 0 := by rw [Int.tmod_eq_emod_of_nonneg (by omega)]; omega
  rw [Hyb.stp_over hrd hlow (by rw [if_pos hp]; omega)]
  have hgt : (lf : Int) < (q : Int) := by omega
  have hqp : (1 : Int) ≤ (q : Int) := by omega
  have hqn : ((q : Int) == 0) = false := by rw [beq_eq_false_iff_ne]; omega
  clear hB hO hXX hlf hlf1 hlf64 hrd r1 r2 r3 r4 hq hmo ho hwt hlow hp hov
  go_enter Try.func56, Try.ntmps56
  go_wp2_with fail
  refine Calls.mono (CR _).out ?_
  rintro e w1 ⟨rfl, hx⟩
  have HX := hid hx
  have HB1 := hid (HB.out.keep hx)
  have hc0 := HB1.out.cell 0
  have hf0 := HB1.out.frozen 0
  clear hx
  go_wp2
  refine wp_gen (fun wy => HyRd g wy (s.drop k) wd want o vo ∧ But g w wy) ⟨⟨by rw [← HXD.out]; exact (HB1.out.set 0 _).cast rfl, own_but (own_ext HO.out HX.out) (but_put _ _ _) (Nat.lt_succ_self _)⟩, ((but_refl g w).ext HX.out).put _ (.inl rfl) _⟩ ?_
  rintro w2 ⟨hst, hbut⟩
  have HST := hid hst
  have HBT := hid hbut
  have hd2 := hst.1.cell 2
  have hd3 := hst.1.cell 3
  obtain ⟨A2, c2, rfl, _⟩ := Rd.owned hst.2
  clear hst hbut hc0 hf0
  go_quiet (fail)
  go_wp2
  go_returns
  exact ⟨rfl, (HBT.out.draws _).below (Nat.le_refl _) (Nat.le_of_lt HLT.out), fun h => by cases h⟩
set_option maxRecDepth 100000 in
set_option maxHeartbeats 1600000 in
theorem hyPart_low1 (s : List UInt8) (wd want : Nat) (o : List Nat) (vo : Value) (g : Nat) (w : World) (a k e : Nat) (hrd : Vary.rd s = (a, k, e)) (he : e = 0) (hp : a % 2 = 1) (hlow : a < 2) (h : HyRd g w s wd want o vo) (ho : o.length < want) (hwt : want ≤ 64) :
    Calls Try.prog 56 #[.pointer (some ⟨g, 0, none⟩)] w (HyPart g s wd want o w) := by
  obtain ⟨hB, hO⟩ := h
  have HO := hid hO
  obtain ⟨XX, hXX⟩ : ∃ XX : ByteArray, XX = ⟨s.toArray⟩ := ⟨_, rfl⟩
  have hXs : XX.size = s.length := by rw [hXX, str_size]
  have HXd := hid (show XX.data.toList = s by rw [hXX])
  rw [← hXX] at hB
  have HB := hid hB
  have hc0 := hB.cell 0
  have hf0 := hB.frozen 0
  have HLT := hid hB.lt
  obtain ⟨lf, hlf⟩ : ∃ lf, lf = want - o.length := ⟨_, rfl⟩
  have hlfI : (want : Int) - (o.length : Int) = (lf : Int) := by omega
  have hlf1 : 1 ≤ lf := by omega
  have hlf64 : lf ≤ 64 := by omega
  unfold HyPart
  rw [← hlf]
  have CR : ∀ wx : World, Hid (Calls Try.prog 79 #[.string XX] wx fun e' w' => e' = .returned (.tuple #[.int .u64 a, .int .i64 k, .int .i64 e]) ∧ Ext wx w') := fun wx => by
    have := read_any XX wx
    rw [HXd.out, hrd] at this
    exact hid this
  subst he
  obtain ⟨r1, r2, r3, r4, _⟩ := Vary.rd_ok (s := s) (by rw [hrd])
  rw [hrd] at r1 r2 r3 r4
  simp only at r1 r2 r3 r4
  have hT := fun wx : World => run_from (P := Try.prog) (w := wx) Try.underlying9 XX .i64 k (by omega)
  rw [HXd.out] at hT
  obtain ⟨XD, hXD⟩ : ∃ XD : ByteArray, XD = ⟨(s.drop k).toArray⟩ := ⟨_, rfl⟩
  rw [← hXD] at hT
  have HXD := hid hXD
  have haI : (a : Int) ≤ 18446744073709551615 := by omega
  obtain ⟨q, hq⟩ : ∃ q, q = a / 2 := ⟨_, rfl⟩
  have hq1 : (a : Int) / 2 = (q : Int) := by omega
  have hq2 : (a : Int).tdiv 2 = (q : Int) := by rw [Int.tdiv_eq_ediv_of_nonneg (by omega)]; omega
  have hqI : (q : Int) ≤ 9223372036854775807 := by omega
  obtain ⟨mo, hmo⟩ : ∃ mo, mo = (lf + 7) / 8 := ⟨_, rfl⟩
  have hmo1 : ((lf : Int) + 8 - 1) / 8 = (mo : Int) := by omega
  have hmo2 : ((lf : Int) + 8 - 1).tdiv 8 = (mo : Int) := by rw [Int.tdiv_eq_ediv_of_nonneg (by omega)]; omega
  have hmo3 : ((lf : Int) + 7) / 8 = (mo : Int) := by omega
  have hmo4 : ((lf : Int) + 7).tdiv 8 = (mo : Int) := by rw [Int.tdiv_eq_ediv_of_nonneg (by omega)]; omega
  have hmoI : (mo : Int) ≤ 8 := by omega
  have hlfI2 : (lf : Int) ≤ 64 := by omega
  have hkI : (k : Int) ≤ 9 := by omega
  have hu1 : IntKind.u64.wrap (mo : Int) = (mo : Int) := by rw [IntKind.wrap_u64]; omega
  have hu2 : IntKind.u64.wrap (lf : Int) = (lf : Int) := by rw [IntKind.wrap_u64]; omega
  have hu3 : IntKind.i64.wrap (q : Int) = (q : Int) := by rw [IntKind.wrap_i64]; omega
  have hp1 : (a : Int) % 2 = 1 := by omega
  have hp2 : (a : Int).tmod 2 = 1 := by rw [Int.tmod_eq_emod_of_nonneg (by omega)]; omega
  rw [Hyb.stp_low hrd hlow]
  have hq0 : q = 0 := by omega
  subst hq0
  clear hB hO hXX hlf hlf1 hlf64 hrd r1 r2 r3 r4 hq hmo ho hwt hlow hp
  go_enter Try.func56, Try.ntmps56
  go_wp2_with fail
  refine Calls.mono (CR _).out ?_
  rintro e w1 ⟨rfl, hx⟩
  have HX := hid hx
  have HB1 := hid (HB.out.keep hx)
  have hc0 := HB1.out.cell 0
  have hf0 := HB1.out.frozen 0
  clear hx
  go_wp2
  refine wp_gen (fun wy => HyRd g wy (s.drop k) wd want o vo ∧ But g w wy) ⟨⟨by rw [← HXD.out]; exact (HB1.out.set 0 _).cast rfl, own_but (own_ext HO.out HX.out) (but_put _ _ _) (Nat.lt_succ_self _)⟩, ((but_refl g w).ext HX.out).put _ (.inl rfl) _⟩ ?_
  rintro w2 ⟨hst, hbut⟩
  have HST := hid hst
  have HBT := hid hbut
  have hd2 := hst.1.cell 2
  have hd3 := hst.1.cell 3
  obtain ⟨A2, c2, rfl, _⟩ := Rd.owned hst.2
  clear hst hbut hc0 hf0
  go_quiet (fail)
  go_wp2
  go_returns
  exact ⟨rfl, (HBT.out.draws _).below (Nat.le_refl _) (Nat.le_of_lt HLT.out), fun h => by cases h⟩
set_option maxRecDepth 100000 in
set_option maxHeartbeats 1600000 in
theorem hyPart_over1 (s : List UInt8) (wd want : Nat) (o : List Nat) (vo : Value) (g : Nat) (w : World) (a k e : Nat) (hrd : Vary.rd s = (a, k, e)) (he : e = 0) (hp : a % 2 = 1) (hlow : 2 ≤ a) (hov : (want - o.length + 7) / 8 < a / 2) (h : HyRd g w s wd want o vo) (ho : o.length < want) (hwt : want ≤ 64) :
    Calls Try.prog 56 #[.pointer (some ⟨g, 0, none⟩)] w (HyPart g s wd want o w) := by
  obtain ⟨hB, hO⟩ := h
  have HO := hid hO
  obtain ⟨XX, hXX⟩ : ∃ XX : ByteArray, XX = ⟨s.toArray⟩ := ⟨_, rfl⟩
  have hXs : XX.size = s.length := by rw [hXX, str_size]
  have HXd := hid (show XX.data.toList = s by rw [hXX])
  rw [← hXX] at hB
  have HB := hid hB
  have hc0 := hB.cell 0
  have hf0 := hB.frozen 0
  have HLT := hid hB.lt
  obtain ⟨lf, hlf⟩ : ∃ lf, lf = want - o.length := ⟨_, rfl⟩
  have hlfI : (want : Int) - (o.length : Int) = (lf : Int) := by omega
  have hlf1 : 1 ≤ lf := by omega
  have hlf64 : lf ≤ 64 := by omega
  unfold HyPart
  rw [← hlf]
  have CR : ∀ wx : World, Hid (Calls Try.prog 79 #[.string XX] wx fun e' w' => e' = .returned (.tuple #[.int .u64 a, .int .i64 k, .int .i64 e]) ∧ Ext wx w') := fun wx => by
    have := read_any XX wx
    rw [HXd.out, hrd] at this
    exact hid this
  subst he
  obtain ⟨r1, r2, r3, r4, _⟩ := Vary.rd_ok (s := s) (by rw [hrd])
  rw [hrd] at r1 r2 r3 r4
  simp only at r1 r2 r3 r4
  have hT := fun wx : World => run_from (P := Try.prog) (w := wx) Try.underlying9 XX .i64 k (by omega)
  rw [HXd.out] at hT
  obtain ⟨XD, hXD⟩ : ∃ XD : ByteArray, XD = ⟨(s.drop k).toArray⟩ := ⟨_, rfl⟩
  rw [← hXD] at hT
  have HXD := hid hXD
  have haI : (a : Int) ≤ 18446744073709551615 := by omega
  obtain ⟨q, hq⟩ : ∃ q, q = a / 2 := ⟨_, rfl⟩
  have hq1 : (a : Int) / 2 = (q : Int) := by omega
  have hq2 : (a : Int).tdiv 2 = (q : Int) := by rw [Int.tdiv_eq_ediv_of_nonneg (by omega)]; omega
  have hqI : (q : Int) ≤ 9223372036854775807 := by omega
  obtain ⟨mo, hmo⟩ : ∃ mo, mo = (lf + 7) / 8 := ⟨_, rfl⟩
  have hmo1 : ((lf : Int) + 8 - 1) / 8 = (mo : Int) := by omega
  have hmo2 : ((lf : Int) + 8 - 1).tdiv 8 = (mo : Int) := by rw [Int.tdiv_eq_ediv_of_nonneg (by omega)]; omega
  have hmo3 : ((lf : Int) + 7) / 8 = (mo : Int) := by omega
  have hmo4 : ((lf : Int) + 7).tdiv 8 = (mo : Int) := by rw [Int.tdiv_eq_ediv_of_nonneg (by omega)]; omega
  have hmoI : (mo : Int) ≤ 8 := by omega
  have hlfI2 : (lf : Int) ≤ 64 := by omega
  have hkI : (k : Int) ≤ 9 := by omega
  have hu1 : IntKind.u64.wrap (mo : Int) = (mo : Int) := by rw [IntKind.wrap_u64]; omega
  have hu2 : IntKind.u64.wrap (lf : Int) = (lf : Int) := by rw [IntKind.wrap_u64]; omega
  have hu3 : IntKind.i64.wrap (q : Int) = (q : Int) := by rw [IntKind.wrap_i64]; omega
  have hp1 : (a : Int) % 2 = 1 := by omega
  have hp2 : (a : Int).tmod 2 = 1 := by rw [Int.tmod_eq_emod_of_nonneg (by omega)]; omega
  rw [Hyb.stp_over hrd hlow (by rw [if_neg (by omega)]; omega)]
  have hgt : (mo : Int) < (q : Int) := by omega
  have hqp : (1 : Int) ≤ (q : Int) := by omega
  have hqn : ((q : Int) == 0) = false := by rw [beq_eq_false_iff_ne]; omega
  clear hB hO hXX hlf hlf1 hlf64 hrd r1 r2 r3 r4 hq hmo ho hwt hlow hp hov
  go_enter Try.func56, Try.ntmps56
  go_wp2_with fail
  refine Calls.mono (CR _).out ?_
  rintro e w1 ⟨rfl, hx⟩
  have HX := hid hx
  have HB1 := hid (HB.out.keep hx)
  have hc0 := HB1.out.cell 0
  have hf0 := HB1.out.frozen 0
  clear hx
  go_wp2
  refine wp_gen (fun wy => HyRd g wy (s.drop k) wd want o vo ∧ But g w wy) ⟨⟨by rw [← HXD.out]; exact (HB1.out.set 0 _).cast rfl, own_but (own_ext HO.out HX.out) (but_put _ _ _) (Nat.lt_succ_self _)⟩, ((but_refl g w).ext HX.out).put _ (.inl rfl) _⟩ ?_
  rintro w2 ⟨hst, hbut⟩
  have HST := hid hst
  have HBT := hid hbut
  have hd2 := hst.1.cell 2
  have hd3 := hst.1.cell 3
  obtain ⟨A2, c2, rfl, _⟩ := Rd.owned hst.2
  clear hst hbut hc0 hf0
  go_quiet (fail)
  go_wp2
  go_returns
  exact ⟨rfl, (HBT.out.draws _).below (Nat.le_refl _) (Nat.le_of_lt HLT.out), fun h => by cases h⟩
set_option maxRecDepth 100000 in
set_option maxHeartbeats 1600000 in
theorem hyPart_run (s : List UInt8) (wd want : Nat) (o : List Nat) (vo : Value) (g : Nat) (w : World) (a k e : Nat) (hrd : Vary.rd s = (a, k, e)) (he : e = 0) (hp : a % 2 = 0) (hlow : 2 ≤ a) (hov : a / 2 ≤ want - o.length) (h : HyRd g w s wd want o vo) (ho : o.length < want) (hwt : want ≤ 64) (hwd : wd ≤ 64) :
    Calls Try.prog 56 #[.pointer (some ⟨g, 0, none⟩)] w (HyPart g s wd want o w) := by
  obtain ⟨hB, hO⟩ := h
  have HO := hid hO
  obtain ⟨XX, hXX⟩ : ∃ XX : ByteArray, XX = ⟨s.toArray⟩ := ⟨_, rfl⟩
  have hXs : XX.size = s.length := by rw [hXX, str_size]
  have HXd := hid (show XX.data.toList = s by rw [hXX])
  rw [← hXX] at hB
  have HB := hid hB
  have hc0 := hB.cell 0
  have hf0 := hB.frozen 0
  have HLT := hid hB.lt
  obtain ⟨lf, hlf⟩ : ∃ lf, lf = want - o.length := ⟨_, rfl⟩
  have hlfI : (want : Int) - (o.length : Int) = (lf : Int) := by omega
  have hlf1 : 1 ≤ lf := by omega
  have hlf64 : lf ≤ 64 := by omega
  unfold HyPart
  rw [← hlf]
  have CR : ∀ wx : World, Hid (Calls Try.prog 79 #[.string XX] wx fun e' w' => e' = .returned (.tuple #[.int .u64 a, .int .i64 k, .int .i64 e]) ∧ Ext wx w') := fun wx => by
    have := read_any XX wx
    rw [HXd.out, hrd] at this
    exact hid this
  subst he
  obtain ⟨r1, r2, r3, r4, _⟩ := Vary.rd_ok (s := s) (by rw [hrd])
  rw [hrd] at r1 r2 r3 r4
  simp only at r1 r2 r3 r4
  have hT := fun wx : World => run_from (P := Try.prog) (w := wx) Try.underlying9 XX .i64 k (by omega)
  rw [HXd.out] at hT
  obtain ⟨XD, hXD⟩ : ∃ XD : ByteArray, XD = ⟨(s.drop k).toArray⟩ := ⟨_, rfl⟩
  rw [← hXD] at hT
  have HXD := hid hXD
  have haI : (a : Int) ≤ 18446744073709551615 := by omega
  obtain ⟨q, hq⟩ : ∃ q, q = a / 2 := ⟨_, rfl⟩
  have hq1 : (a : Int) / 2 = (q : Int) := by omega
  have hq2 : (a : Int).tdiv 2 = (q : Int) := by rw [Int.tdiv_eq_ediv_of_nonneg (by omega)]; omega
  have hqI : (q : Int) ≤ 9223372036854775807 := by omega
  obtain ⟨mo, hmo⟩ : ∃ mo, mo = (lf + 7) / 8 := ⟨_, rfl⟩
  have hmo1 : ((lf : Int) + 8 - 1) / 8 = (mo : Int) := by omega
  have hmo2 : ((lf : Int) + 8 - 1).tdiv 8 = (mo : Int) := by rw [Int.tdiv_eq_ediv_of_nonneg (by omega)]; omega
  have hmo3 : ((lf : Int) + 7) / 8 = (mo : Int) := by omega
  have hmo4 : ((lf : Int) + 7).tdiv 8 = (mo : Int) := by rw [Int.tdiv_eq_ediv_of_nonneg (by omega)]; omega
  have hmoI : (mo : Int) ≤ 8 := by omega
  have hlfI2 : (lf : Int) ≤ 64 := by omega
  have hkI : (k : Int) ≤ 9 := by omega
  have hu1 : IntKind.u64.wrap (mo : Int) = (mo : Int) := by rw [IntKind.wrap_u64]; omega
  have hu2 : IntKind.u64.wrap (lf : Int) = (lf : Int) := by rw [IntKind.wrap_u64]; omega
  have hu3 : IntKind.i64.wrap (q : Int) = (q : Int) := by rw [IntKind.wrap_i64]; omega
  have hp1 : (a : Int) % 2 = 0 := by omega
  have hp2 : (a : Int).tmod 2 = 0 := by rw [Int.tmod_eq_emod_of_nonneg (by omega)]; omega
  have hgt : (q : Int) ≤ (lf : Int) := by omega
  have hqp : (1 : Int) ≤ (q : Int) := by omega
  have hqn : ((q : Int) == 0) = false := by rw [beq_eq_false_iff_ne]; omega
  have HBAD := hid (Hyb.stp_wrong (w := wd) (left := lf) hrd hlow (by rw [if_pos hp]; omega) hwd hlf64)
  rw [show Hyb.each a = 1 from by unfold Hyb.each; rw [if_pos hp]] at HBAD
  have HGOOD := hid (Hyb.stp_row (w := wd) (left := lf) hrd hlow hp (by omega))
  obtain ⟨x, hx⟩ : ∃ x, x = (Hyb.nmb wd 1 (s.drop k)).1.headD 0 := ⟨_, rfl⟩
  have hx1 : (Hyb.nmb wd 1 (s.drop k)).2.1 = 0 → (Hyb.nmb wd 1 (s.drop k)).1 = [x] := fun h => by
    obtain ⟨y, hy, _⟩ := HGOOD.out h
    rw [hx, hy]; rfl
  have hxl : x < 18446744073709551616 := by
    rw [hx]
    cases hl : (Hyb.nmb wd 1 (s.drop k)).1 with
    | nil => simp
    | cons y r =>
      have := Hyb.nmb_lt (w := wd) (many := 1) (s := s.drop k) y (by rw [hl]; simp)
      have h2 : 2 ^ wd ≤ 2 ^ 64 := Nat.pow_le_pow_right (by decide) hwd
      simp only [List.headD_cons]; omega
  have CN := hid (fun (v : Value) (wx : World) (h : HyRd g wx (s.drop k) wd want o v) => hyRun_any (s.drop k) wd want q x o v g wx h (by omega) (by omega) hwd hx1 hxl)
  have HX1 := hid hx1
  have HQ := hid hq
  clear hB hO hXX hlf hlf1 hlf64 hrd r1 r2 r3 r4 hq hmo ho hwt hlow hp hov hx hx1 hxl hwd
  go_enter Try.func56, Try.ntmps56
  go_wp2_with fail
  refine Calls.mono (CR _).out ?_
  rintro e w1 ⟨rfl, hx⟩
  have HX := hid hx
  have HB1 := hid (HB.out.keep hx)
  have hc0 := HB1.out.cell 0
  have hf0 := HB1.out.frozen 0
  clear hx
  go_wp2
  refine wp_gen (fun wy => HyRd g wy (s.drop k) wd want o vo ∧ But g w wy) ⟨⟨by rw [← HXD.out]; exact (HB1.out.set 0 _).cast rfl, own_but (own_ext HO.out HX.out) (but_put _ _ _) (Nat.lt_succ_self _)⟩, ((but_refl g w).ext HX.out).put _ (.inl rfl) _⟩ ?_
  rintro w2 ⟨hst, hbut⟩
  have HST := hid hst
  have HBT := hid hbut
  have hd2 := hst.1.cell 2
  have hd3 := hst.1.cell 3
  obtain ⟨A2, c2, rfl, _⟩ := Rd.owned hst.2
  clear hst hbut hc0 hf0
  go_quiet (fail)
  go_wp2_with fail
  refine Calls.mono (CN.out _ _ (HST.out.keep ((ext_refl _).draws _))) ?_
  rintro e w3 ⟨rfl, hb, hgd⟩
  have HBL := hid (((HBT.out.draws _).below (Nat.le_refl _) (Nat.le_of_lt HLT.out)).trans hb)
  have HGD := hid hgd
  clear hb hgd
  go_wp2
  go_returns
  by_cases h0 : (Hyb.nmb wd 1 (s.drop k)).2.1 = 0
  · obtain ⟨y, hy, hst, hr⟩ := HGOOD.out h0
    obtain rfl : x = y := by have := HX1.out h0; rw [hy] at this; injection this with this; exact this.symm
    rw [hst]
    refine ⟨by rw [h0]; rfl, HBL.out, fun _ => ?_⟩
    have := HGD.out h0
    rw [hr, HQ.out] at this
    exact this
  · rw [HBAD.out h0]
    exact ⟨rfl, HBL.out, fun h => absurd h h0⟩
set_option maxRecDepth 100000 in
set_option maxHeartbeats 1600000 in
theorem hyPart_blkbad (s : List UInt8) (wd want : Nat) (o : List Nat) (vo : Value) (g : Nat) (w : World) (a k e : Nat) (hrd : Vary.rd s = (a, k, e)) (he : e = 0) (hp : a % 2 = 1) (hlow : 2 ≤ a) (hov : a / 2 ≤ (want - o.length + 7) / 8) (hb0 : (Hyb.nmb wd (a / 2 * 8) (s.drop k)).2.1 ≠ 0) (h : HyRd g w s wd want o vo) (ho : o.length < want) (hwt : want ≤ 64) (hwd : wd ≤ 64) :
    Calls Try.prog 56 #[.pointer (some ⟨g, 0, none⟩)] w (HyPart g s wd want o w) := by
  obtain ⟨hB, hO⟩ := h
  have HO := hid hO
  obtain ⟨XX, hXX⟩ : ∃ XX : ByteArray, XX = ⟨s.toArray⟩ := ⟨_, rfl⟩
  have hXs : XX.size = s.length := by rw [hXX, str_size]
  have HXd := hid (show XX.data.toList = s by rw [hXX])
  rw [← hXX] at hB
  have HB := hid hB
  have hc0 := hB.cell 0
  have hf0 := hB.frozen 0
  have HLT := hid hB.lt
  obtain ⟨lf, hlf⟩ : ∃ lf, lf = want - o.length := ⟨_, rfl⟩
  have hlfI : (want : Int) - (o.length : Int) = (lf : Int) := by omega
  have hlf1 : 1 ≤ lf := by omega
  have hlf64 : lf ≤ 64 := by omega
  unfold HyPart
  rw [← hlf]
  have CR : ∀ wx : World, Hid (Calls Try.prog 79 #[.string XX] wx fun e' w' => e' = .returned (.tuple #[.int .u64 a, .int .i64 k, .int .i64 e]) ∧ Ext wx w') := fun wx => by
    have := read_any XX wx
    rw [HXd.out, hrd] at this
    exact hid this
  subst he
  obtain ⟨r1, r2, r3, r4, _⟩ := Vary.rd_ok (s := s) (by rw [hrd])
  rw [hrd] at r1 r2 r3 r4
  simp only at r1 r2 r3 r4
  have hT := fun wx : World => run_from (P := Try.prog) (w := wx) Try.underlying9 XX .i64 k (by omega)
  rw [HXd.out] at hT
  obtain ⟨XD, hXD⟩ : ∃ XD : ByteArray, XD = ⟨(s.drop k).toArray⟩ := ⟨_, rfl⟩
  rw [← hXD] at hT
  have HXD := hid hXD
  have haI : (a : Int) ≤ 18446744073709551615 := by omega
  obtain ⟨q, hq⟩ : ∃ q, q = a / 2 := ⟨_, rfl⟩
  have hq1 : (a : Int) / 2 = (q : Int) := by omega
  have hq2 : (a : Int).tdiv 2 = (q : Int) := by rw [Int.tdiv_eq_ediv_of_nonneg (by omega)]; omega
  have hqI : (q : Int) ≤ 9223372036854775807 := by omega
  obtain ⟨mo, hmo⟩ : ∃ mo, mo = (lf + 7) / 8 := ⟨_, rfl⟩
  have hmo1 : ((lf : Int) + 8 - 1) / 8 = (mo : Int) := by omega
  have hmo2 : ((lf : Int) + 8 - 1).tdiv 8 = (mo : Int) := by rw [Int.tdiv_eq_ediv_of_nonneg (by omega)]; omega
  have hmo3 : ((lf : Int) + 7) / 8 = (mo : Int) := by omega
  have hmo4 : ((lf : Int) + 7).tdiv 8 = (mo : Int) := by rw [Int.tdiv_eq_ediv_of_nonneg (by omega)]; omega
  have hmoI : (mo : Int) ≤ 8 := by omega
  have hlfI2 : (lf : Int) ≤ 64 := by omega
  have hkI : (k : Int) ≤ 9 := by omega
  have hu1 : IntKind.u64.wrap (mo : Int) = (mo : Int) := by rw [IntKind.wrap_u64]; omega
  have hu2 : IntKind.u64.wrap (lf : Int) = (lf : Int) := by rw [IntKind.wrap_u64]; omega
  have hu3 : IntKind.i64.wrap (q : Int) = (q : Int) := by rw [IntKind.wrap_i64]; omega
  have hp1 : (a : Int) % 2 = 1 := by omega
  have hp2 : (a : Int).tmod 2 = 1 := by rw [Int.tmod_eq_emod_of_nonneg (by omega)]; omega
  have hgt : (q : Int) ≤ (mo : Int) := by omega
  have hqp : (1 : Int) ≤ (q : Int) := by omega
  have hqn : ((q : Int) == 0) = false := by rw [beq_eq_false_iff_ne]; omega
  obtain ⟨z, hz⟩ : ∃ z, z = q * 8 := ⟨_, rfl⟩
  have hz1 : (q : Int) * 8 = (z : Int) := by omega
  have hzI : (z : Int) ≤ 64 := by omega
  have CN := hid (fun (v : Value) (wx : World) (h : HyRd g wx (s.drop k) wd want o v) => hyNumbers_any (s.drop k) wd want z o v g wx h (by omega) hwd)
  rw [← hq, ← hz] at hb0
  have HBAD := Hyb.stp_wrong (w := wd) (left := lf) hrd hlow (by rw [if_neg (by omega)]; omega) hwd hlf64
  rw [show Hyb.each a = z from by unfold Hyb.each; rw [if_neg (by omega), hz, hq]] at HBAD
  rw [HBAD hb0]
  obtain ⟨er, her⟩ : ∃ er, er = (Hyb.nmb wd z (s.drop k)).2.1 := ⟨_, rfl⟩
  rw [← her] at hb0 CN ⊢
  have h3 : ((er : Int) != 0) = true := by rw [bne_iff_ne]; omega
  have h4 : ((er : Int) == 0) = false := by rw [beq_eq_false_iff_ne]; omega
  have HE := hid hb0
  clear hB hO hXX hlf hlf1 hlf64 hrd r1 r2 r3 r4 hq hmo ho hwt hlow hp hov hb0 hz HBAD her hwd
  go_enter Try.func56, Try.ntmps56
  go_wp2_with fail
  refine Calls.mono (CR _).out ?_
  rintro e w1 ⟨rfl, hx⟩
  have HX := hid hx
  have HB1 := hid (HB.out.keep hx)
  have hc0 := HB1.out.cell 0
  have hf0 := HB1.out.frozen 0
  clear hx
  go_wp2
  refine wp_gen (fun wy => HyRd g wy (s.drop k) wd want o vo ∧ But g w wy) ⟨⟨by rw [← HXD.out]; exact (HB1.out.set 0 _).cast rfl, own_but (own_ext HO.out HX.out) (but_put _ _ _) (Nat.lt_succ_self _)⟩, ((but_refl g w).ext HX.out).put _ (.inl rfl) _⟩ ?_
  rintro w2 ⟨hst, hbut⟩
  have HST := hid hst
  have HBT := hid hbut
  have hd2 := hst.1.cell 2
  have hd3 := hst.1.cell 3
  obtain ⟨A2, c2, rfl, _⟩ := Rd.owned hst.2
  clear hst hbut hc0 hf0
  go_quiet (fail)
  go_wp2_with fail
  refine Calls.mono (CN.out _ _ (HST.out.keep ((ext_refl _).draws _))) ?_
  rintro e w3 ⟨v, rfl, _, _, hb⟩
  have HBL := hid (((HBT.out.draws _).below (Nat.le_refl _) (Nat.le_of_lt HLT.out)).trans (hb.below (Nat.le_refl _) (Nat.le_trans (Nat.le_of_lt HLT.out) (HBT.out.draws _).size)))
  clear hb
  go_wp2
  go_returns
  exact ⟨rfl, HBL.out, fun h => absurd h HE.out⟩
set_option maxRecDepth 100000 in
set_option maxHeartbeats 1600000 in
theorem hyPart_blkok (s : List UInt8) (wd want : Nat) (o : List Nat) (vo : Value) (g : Nat) (w : World) (a k e : Nat) (hrd : Vary.rd s = (a, k, e)) (he : e = 0) (hp : a % 2 = 1) (hlow : 2 ≤ a) (hov : a / 2 ≤ (want - o.length + 7) / 8) (hb0 : (Hyb.nmb wd (a / 2 * 8) (s.drop k)).2.1 = 0) (h : HyRd g w s wd want o vo) (ho : o.length < want) (hwt : want ≤ 64) (hwd : wd ≤ 64) :
    Calls Try.prog 56 #[.pointer (some ⟨g, 0, none⟩)] w (HyPart g s wd want o w) := by
  obtain ⟨hB, hO⟩ := h
  have HO := hid hO
  obtain ⟨XX, hXX⟩ : ∃ XX : ByteArray, XX = ⟨s.toArray⟩ := ⟨_, rfl⟩
  have hXs : XX.size = s.length := by rw [hXX, str_size]
  have HXd := hid (show XX.data.toList = s by rw [hXX])
  rw [← hXX] at hB
  have HB := hid hB
  have hc0 := hB.cell 0
  have hf0 := hB.frozen 0
  have HLT := hid hB.lt
  obtain ⟨lf, hlf⟩ : ∃ lf, lf = want - o.length := ⟨_, rfl⟩
  have hlfI : (want : Int) - (o.length : Int) = (lf : Int) := by omega
  have hlf1 : 1 ≤ lf := by omega
  have hlf64 : lf ≤ 64 := by omega
  unfold HyPart
  rw [← hlf]
  have CR : ∀ wx : World, Hid (Calls Try.prog 79 #[.string XX] wx fun e' w' => e' = .returned (.tuple #[.int .u64 a, .int .i64 k, .int .i64 e]) ∧ Ext wx w') := fun wx => by
    have := read_any XX wx
    rw [HXd.out, hrd] at this
    exact hid this
  subst he
  obtain ⟨r1, r2, r3, r4, _⟩ := Vary.rd_ok (s := s) (by rw [hrd])
  rw [hrd] at r1 r2 r3 r4
  simp only at r1 r2 r3 r4
  have hT := fun wx : World => run_from (P := Try.prog) (w := wx) Try.underlying9 XX .i64 k (by omega)
  rw [HXd.out] at hT
  obtain ⟨XD, hXD⟩ : ∃ XD : ByteArray, XD = ⟨(s.drop k).toArray⟩ := ⟨_, rfl⟩
  rw [← hXD] at hT
  have HXD := hid hXD
  have haI : (a : Int) ≤ 18446744073709551615 := by omega
  obtain ⟨q, hq⟩ : ∃ q, q = a / 2 := ⟨_, rfl⟩
  have hq1 : (a : Int) / 2 = (q : Int) := by omega
  have hq2 : (a : Int).tdiv 2 = (q : Int) := by rw [Int.tdiv_eq_ediv_of_nonneg (by omega)]; omega
  have hqI : (q : Int) ≤ 9223372036854775807 := by omega
  obtain ⟨mo, hmo⟩ : ∃ mo, mo = (lf + 7) / 8 := ⟨_, rfl⟩
  have hmo1 : ((lf : Int) + 8 - 1) / 8 = (mo : Int) := by omega
  have hmo2 : ((lf : Int) + 8 - 1).tdiv 8 = (mo : Int) := by rw [Int.tdiv_eq_ediv_of_nonneg (by omega)]; omega
  have hmo3 : ((lf : Int) + 7) / 8 = (mo : Int) := by omega
  have hmo4 : ((lf : Int) + 7).tdiv 8 = (mo : Int) := by rw [Int.tdiv_eq_ediv_of_nonneg (by omega)]; omega
  have hmoI : (mo : Int) ≤ 8 := by omega
  have hlfI2 : (lf : Int) ≤ 64 := by omega
  have hkI : (k : Int) ≤ 9 := by omega
  have hu1 : IntKind.u64.wrap (mo : Int) = (mo : Int) := by rw [IntKind.wrap_u64]; omega
  have hu2 : IntKind.u64.wrap (lf : Int) = (lf : Int) := by rw [IntKind.wrap_u64]; omega
  have hu3 : IntKind.i64.wrap (q : Int) = (q : Int) := by rw [IntKind.wrap_i64]; omega
  have hp1 : (a : Int) % 2 = 1 := by omega
  have hp2 : (a : Int).tmod 2 = 1 := by rw [Int.tmod_eq_emod_of_nonneg (by omega)]; omega
  have hgt : (q : Int) ≤ (mo : Int) := by omega
  have hqp : (1 : Int) ≤ (q : Int) := by omega
  have hqn : ((q : Int) == 0) = false := by rw [beq_eq_false_iff_ne]; omega
  obtain ⟨z, hz⟩ : ∃ z, z = q * 8 := ⟨_, rfl⟩
  have hz1 : (q : Int) * 8 = (z : Int) := by omega
  have hzI : (z : Int) ≤ 64 := by omega
  have CN := hid (fun (v : Value) (wx : World) (h : HyRd g wx (s.drop k) wd want o v) => hyNumbers_any (s.drop k) wd want z o v g wx h (by omega) hwd)
  rw [← hq, ← hz] at hb0
  have HST0 := Hyb.stp_blocks (w := wd) (left := lf) hrd hlow hp (by omega) (by rw [← hq, ← hz]; exact hb0)
  rw [← hq, ← hz] at HST0
  have hll := Hyb.nmb_len hb0
  obtain ⟨L, er, r, hn⟩ : ∃ L er r, Hyb.nmb wd z (s.drop k) = (L, er, r) := ⟨_, _, _, rfl⟩
  rw [hn] at CN hb0 HST0 hll
  simp only at CN hb0 HST0 hll
  subst hb0
  obtain ⟨hst0, hr0⟩ := HST0
  have HS0 := hid hst0
  have HR0 := hid hr0
  obtain ⟨mn, hmn⟩ : ∃ mn, mn = min lf z := ⟨_, rfl⟩
  have hmn1 : min (lf : Int) (z : Int) = (mn : Int) := by omega
  have hmnz : (mn : Int) ≤ (z : Int) := by omega
  have HTK := hid (show L.take lf = L.take mn by rw [hmn, ← hll]; exact (take_minl L lf).symm)
  have HDR := hid (show L.drop lf = L.drop mn by rw [hmn, ← hll]; exact (drop_minl L lf).symm)
  obtain ⟨d, hd⟩ : ∃ d, d = z - mn := ⟨_, rfl⟩
  have hdI : (z : Int) - (mn : Int) = (d : Int) := by omega
  have hd64 : (d : Int) ≤ 64 := by omega
  have HDL := hid (show (L.drop mn).length = d by rw [List.length_drop, hll, hd])
  have HTL := hid (show (L.take mn).length = mn by rw [List.length_take, hll]; omega)
  have HLL := hid hll
  have HMZ := hid (show mn ≤ z by omega)
  have HMN := hid (show mn ≤ 64 by omega)
  have HOL := hid (show o.length ≤ 64 by omega)
  have HDD := hid hd
  clear hB hO hXX hlf hlf1 hlf64 hrd r1 r2 r3 r4 hq hmo ho hwt hlow hp hov hz hn hll hst0 hr0 hmn hd hwd
  go_enter Try.func56, Try.ntmps56
  go_wp2_with fail
  refine Calls.mono (CR _).out ?_
  rintro e w1 ⟨rfl, hx⟩
  have HX := hid hx
  have HB1 := hid (HB.out.keep hx)
  have hc0 := HB1.out.cell 0
  have hf0 := HB1.out.frozen 0
  clear hx
  go_wp2
  refine wp_gen (fun wy => HyRd g wy (s.drop k) wd want o vo ∧ But g w wy) ⟨⟨by rw [← HXD.out]; exact (HB1.out.set 0 _).cast rfl, own_but (own_ext HO.out HX.out) (but_put _ _ _) (Nat.lt_succ_self _)⟩, ((but_refl g w).ext HX.out).put _ (.inl rfl) _⟩ ?_
  rintro w2 ⟨hst, hbut⟩
  have HST := hid hst
  have HBT := hid hbut
  have hd2 := hst.1.cell 2
  have hd3 := hst.1.cell 3
  obtain ⟨A2, c2, rfl, _⟩ := Rd.owned hst.2
  clear hst hbut hc0 hf0
  go_quiet (fail)
  go_wp2_with fail
  refine Calls.mono (CN.out _ _ (HST.out.keep ((ext_refl _).draws _))) ?_
  rintro e w3 ⟨v, rfl, hown, hst3, hb⟩
  obtain ⟨A, cap, rfl, hrl, hA, hcap, _⟩ := Rd.owned hown
  have HBL := hid (((HBT.out.draws _).below (Nat.le_refl _) (Nat.le_of_lt HLT.out)).trans (hb.below (Nat.le_refl g) (Nat.le_trans (Nat.le_of_lt HLT.out) (HBT.out.draws _).size)))
  have HRL := hid hrl
  have HS3 := hid hst3
  have HCAP := hid hcap
  have HRF := hid (hrl.u64from mn cap hcap)
  have HSL := fun wx : World => sl_from (P := Try.prog) (t := 22) (e := 33) (m := 1) Try.underlying22 (by kernel_rfl) A L.length cap .i64 mn (by rw [HLL.out]; exact HMZ.out) wx
  have HST4 := fun wx : World => sl_to (P := Try.prog) (t := 22) (e := 33) (m := 1) Try.underlying22 (by kernel_rfl) A L.length cap .i64 mn (by have := HLL.out; have := HMZ.out; omega) wx
  have HAN := hid hA
  rw [HLL.out] at HSL HST4 ⊢
  rw [← HDD.out] at HSL
  obtain ⟨R2, hR2⟩ : ∃ R2, R2 = slF A mn cap 1 := ⟨_, rfl⟩
  rw [← hR2] at HSL HRF
  clear hown hst3 hb hrl hA hcap hd2 hd3 hR2
  go_wp2
  go_loop [11, 87] (fun _ c => ∃ j : Nat, j ≤ d ∧ c = .int .i64 j ∧ Hid (∀ i, i < j → (L.drop mn)[i]? = some 0)) (fun _ c => d - (intOf c).toNat)
  case atStart => exact ⟨0, Nat.zero_le _, rfl, hid (fun i h => by omega)⟩
  case round =>
    obtain ⟨j, hj, rfl, HZ⟩ := hrel
    have hjI : (j : Int) ≤ (d : Int) := by omega
    by_cases hlt : j < d
    · have hltI : (j : Int) < (d : Int) := by omega
      obtain ⟨y, hy⟩ : ∃ y, (L.drop mn)[j]? = some y := ⟨_, List.getElem?_eq_getElem (by rw [HDL.out]; exact hlt)⟩
      obtain ⟨rb, ro, rfl, rlt, rc⟩ := HRF.out.num0 (by rw [HDL.out]; omega)
      have dy := rc j y hy
      clear rc
      have HY := hid hy
      clear hy
      by_cases hy0 : y = 0
      · subst hy0
        go_wp2
        go_round
        case rel => exact ⟨j + 1, by omega, by go_num, hid (fun i hi => by
          rcases Nat.lt_or_ge i j with h4 | h4
          · exact HZ.out i h4
          · rw [show i = j by omega]; exact HY.out)⟩
        case measure => simp [intOf]; omega
      · have h3 : ((y : Int) != 0) = true := by rw [bne_iff_ne]; omega
        have h4 : ((y : Int) == 0) = false := by rw [beq_eq_false_iff_ne]; omega
        have HF := hid (show (1, ([] : List Nat), 0) = Hyb.stp wd lf s from by
          rw [HS0.out, if_neg]
          intro h
          rw [HDR.out] at h
          have := List.all_eq_true.1 h y (List.mem_of_getElem? HY.out)
          simp at this; exact hy0 this)
        clear hy0
        go_wp2
        go_returns
        rw [← HF.out]
        exact ⟨rfl, HBL.out, fun h => by cases h⟩
    · obtain rfl : j = d := by omega
      have HF := hid (show Hyb.stp wd lf s = (0, L.take mn, k + Bits.size z wd) from by
        rw [HS0.out, if_pos, HTK.out]
        rw [HDR.out, List.all_eq_true]
        intro y hy
        obtain ⟨i, hi, rfl⟩ := List.getElem_of_mem hy
        have h5 := HZ.out i (by rw [← HDL.out]; exact hi)
        rw [List.getElem?_eq_getElem hi] at h5
        injection h5 with h5
        simp [h5])
      have hd3 := HS3.out.1.cell 3
      have HWL := hid HS3.out.1.lt
      have HNG := hid (show (Value.slice A2 o.length c2).ownBlock ≠ some g from fun e1 => by have := (HS3.out.2.lt g e1).1; omega)
      clear hlt HRF
      go_wp2_with fail
      have hd3r := cell_regrown hd3
      refine wp_region_late [11, 14] [0, 12, 13] [(0, true), (1, true), (2, true), (3, true), (4, true), (5, true), (6, true), (7, true), (8, false), (9, false), (10, true), (11, false), (12, true), (13, true), (14, false)] (by kernel_rfl) (by kernel_rfl) (fun _ _ _ _ _ h => h) (by kernel_rfl) (by rfl) ?_
      simp only [List.filterMap_cons, List.filterMap_nil, List.getElem?_toArray, List.getElem?_cons_zero, List.getElem?_cons_succ, Option.map_some, List.contains_cons, List.contains_nil, Nat.reduceBEq, Bool.or_false, Bool.or_true]
      repeat ((first | refine wpL_val (by rfl) ?_ | refine wpL_pure (by rfl) ?_); intro K hK; go_big_quiet_op; go_big_quiet_on)
      refine wpL_do (by rfl) ?_
      intro K hK
      go_simp
      have X1 : Ext w3 w3.drew := Ext.draw (ext_refl w3)
      refine hK _ _ X1 ?_
      clear K hK
      refine wpL_do (by rfl) ?_
      intro K hK
      go_simp
      refine hK _ _ X1 ?_
      clear K hK
      repeat (refine wpL_val (by rfl) ?_; intro K hK; go_big_quiet_op; go_big_quiet_on)
      refine wpL_late (by rfl) ?_
      intro K hK
      refine wp_app (.tmp 98) (.tmp 104) rowU64 rfl _ o.length (u64s o) rfl (own_ext HS3.out.2 X1) _ mn (u64s (L.take mn)) rfl (Src.rd Try.underlying22 A mn cap _ (by rw [u64s_len, HTL.out, Nat.mul_one]) ((show Rd w3 A (u64s (L.take mn)) from by
          have h := HRL.out
          rw [← List.take_append_drop mn L, u64s_app] at h
          exact h.pre).keep X1) (u64s_one _) (fun h => by have := HAN.out h; have := HMZ.out; have := HLL.out; omega)) (by have := HOL.out; have := HMN.out; unfold maxLen; omega) (by have := HOL.out; have := HMN.out; omega) (by have := HWL.out; simp; omega) ?_
      intro v3 w4 hown3 hgr3 hat3 hbel3
      refine hK _ _ ?_
      clear K hK
      obtain ⟨C3, c3, rfl, _⟩ := Rd.owned hown3
      have B3 := blk_grown (HS3.out.1.keep X1) hgr3 HNG.out
      have hc33 := B3.cell 3
      have hf33 := B3.frozen 3
      have HB3 := hid B3
      have HO3 := hid hown3
      have HL3 := hid hbel3
      clear hown3 hgr3 hat3 hbel3 B3 hd3 hd3r
      simp only [Act.put, List.setIfInBounds_toArray, List.set_cons_succ, List.set_cons_zero]
      repeat (refine wpL_pure (by rfl) ?_; intro K hK; go_big_quiet_op; go_big_quiet_on)
      refine wpL_late (by rfl) ?_
      intro K hK
      go_simp
      refine hK _ _ ?_
      clear K hK
      refine wpL_nil ?_
      go_wp2
      go_returns
      rw [HF.out]
      refine ⟨rfl, Below.setCell (Below.trans HBL.out (Below.trans (X1.mono (by have := HWL.out; omega)) (HL3.out.mono (by omega)))) (Nat.le_refl _) _, fun _ => ⟨.slice C3 (o.length + mn) c3, ?_, ?_⟩⟩
      · rw [← HR0.out]
        exact (HB3.out.set 3 _).cast rfl
      · rw [List.length_append, HTL.out, u64s_app]
        exact own_but HO3.out (but_put _ _ _) (Nat.lt_succ_self _)
theorem hyPart_any (s : List UInt8) (wd want : Nat) (o : List Nat) (vo : Value) (g : Nat) (w : World) (h : HyRd g w s wd want o vo) (ho : o.length < want) (hwt : want ≤ 64) (hwd : wd ≤ 64) :
    Calls Try.prog 56 #[.pointer (some ⟨g, 0, none⟩)] w (HyPart g s wd want o w) := by
  obtain ⟨a, k, e, hrd⟩ : ∃ a k e, Vary.rd s = (a, k, e) := ⟨_, _, _, rfl⟩
  by_cases he : e = 0
  · by_cases hlow : a < 2
    · rcases Nat.mod_two_eq_zero_or_one a with hp | hp
      · exact hyPart_low0 s wd want o vo g w a k e hrd he hp hlow h ho hwt
      · exact hyPart_low1 s wd want o vo g w a k e hrd he hp hlow h ho hwt
    · rcases Nat.mod_two_eq_zero_or_one a with hp | hp
      · by_cases hov : want - o.length < a / 2
        · exact hyPart_over0 s wd want o vo g w a k e hrd he hp (by omega) hov h ho hwt
        · exact hyPart_run s wd want o vo g w a k e hrd he hp (by omega) (by omega) h ho hwt hwd
      · by_cases hov : (want - o.length + 7) / 8 < a / 2
        · exact hyPart_over1 s wd want o vo g w a k e hrd he hp (by omega) hov h ho hwt
        · by_cases hb0 : (Hyb.nmb wd (a / 2 * 8) (s.drop k)).2.1 = 0
          · exact hyPart_blkok s wd want o vo g w a k e hrd he hp (by omega) (by omega) hb0 h ho hwt hwd
          · exact hyPart_blkbad s wd want o vo g w a k e hrd he hp (by omega) (by omega) hb0 h ho hwt hwd
  · exact hyPart_bad s wd want o vo g w a k e hrd he h ho hwt
end Go.Proofs.Ytdblegdbfdhepaa
