/- Patch: the document's PatchOf: walk (printed by gen_par.py). -/
import Derived.Test.YtdblegdbfdhepaaPaq
import Derived.Test.YtdblegdbfdhepaaBuo
import Derived.Test.YtdblegdbfdhepaaVvo
namespace Go.Proofs.Ytdblegdbfdhepaa
open Go.RowKit Hy

set_option maxHeartbeats 1600000 in
theorem patchOf_vary (s : ByteArray) (L : List UInt8) (hL : s.data.toList = L) (m : Nat) (w : World) (hs : s.size ≤ 281474976710656) (hm : m ≤ 64) (a k e0 : Nat) (hrd : Vary.rd L = (a, k, e0)) (hk : k ≤ L.length) (ha : a < 18446744073709551616) (he : e0 ≠ 0) :
    Calls Try.prog 36 #[.string s, .int .i64 m] w (NumsOut (Pat.rdP L m).1 (Pat.rdP L m).2 w) := by
  have hls : L.length = s.size := by rw [← hL]; simp
  have HVO := hid (varyOf_any s w hs)
  rw [hL, hrd] at HVO
  have hmI : (m : Int) ≤ 64 := by omega
  have haI : (a : Int) ≤ 18446744073709551615 := by omega
  have hkI : (k : Int) ≤ 281474976710656 := by omega
  rw [Pat.rdP_err hm (by rw [Pat.fr_vary hrd he]; exact he), Pat.fr_vary hrd he]
  have h5 : ((e0 : Int) != 0) = true := by rw [bne_iff_ne]; omega
  have h6 : ((e0 : Int) == 0) = false := by rw [beq_eq_false_iff_ne]; omega
  clear hL hs hm hrd hk ha he hls
  go_enter Try.func36, Try.ntmps36
  go_wp2_with fail
  refine Calls.mono HVO.out ?_
  rintro e w1 ⟨rfl, hx⟩
  have HX1 := hid hx
  clear hx
  go_wp2
  go_returns
  exact ⟨none, 0, rfl, fun h => by simp [u64s] at h, HX1.out⟩
set_option maxHeartbeats 1600000 in
theorem patchOf_short (s : ByteArray) (L : List UInt8) (hL : s.data.toList = L) (m : Nat) (w : World) (hs : s.size ≤ 281474976710656) (hm : m ≤ 64) (a k e0 : Nat) (hrd : Vary.rd L = (a, k, e0)) (hk : k ≤ L.length) (ha : a < 18446744073709551616) (he : e0 = 0) (h2 : (L.drop k).length < 2) :
    Calls Try.prog 36 #[.string s, .int .i64 m] w (NumsOut (Pat.rdP L m).1 (Pat.rdP L m).2 w) := by
  have hls : L.length = s.size := by rw [← hL]; simp
  have HVO := hid (varyOf_any s w hs)
  rw [hL, hrd] at HVO
  have hmI : (m : Int) ≤ 64 := by omega
  have haI : (a : Int) ≤ 18446744073709551615 := by omega
  have hkI : (k : Int) ≤ 281474976710656 := by omega
  subst he
  have hF := Pat.fr_ok (many := m) hrd
  obtain ⟨t, ht⟩ : ∃ t, t = L.drop k := ⟨_, rfl⟩
  rw [← ht] at hF
  have htl : t.length ≤ 281474976710656 := by rw [ht, List.length_drop]; omega
  have hI1 := fun wx : World => run_from (P := Try.prog) (w := wx) Try.underlying9 s .i64 k (by omega)
  rw [hL, ← ht] at hI1
  obtain ⟨XT, hXT⟩ : ∃ S : ByteArray, S = ⟨t.toArray⟩ := ⟨_, rfl⟩
  rw [← hXT] at hI1
  have hXs : XT.size = t.length := by rw [hXT, str_size]
  rw [← ht] at h2
  rw [Pat.fr1_short h2] at hF
  rw [Pat.rdP_err hm (by rw [hF]; decide), hF]
  have h2I : (XT.size : Int) < 2 := by omega
  clear hL hs hm hrd hk ha hls hF htl ht hXT hXs h2
  go_enter Try.func36, Try.ntmps36
  go_wp2_with fail
  refine Calls.mono HVO.out ?_
  rintro e w1 ⟨rfl, hx⟩
  have HX1 := hid hx
  clear hx
  go_wp2
  go_returns
  exact ⟨none, 0, rfl, fun h => by simp [u64s] at h, HX1.out⟩
set_option maxHeartbeats 1600000 in
theorem patchOf_wide (s : ByteArray) (L : List UInt8) (hL : s.data.toList = L) (m : Nat) (w : World) (hs : s.size ≤ 281474976710656) (hm : m ≤ 64) (a k e0 : Nat) (hrd : Vary.rd L = (a, k, e0)) (hk : k ≤ L.length) (ha : a < 18446744073709551616) (he : e0 = 0) (c d : UInt8) (u : List UInt8) (hcd : L.drop k = c :: d :: u) (h64 : 64 < c.toNat) :
    Calls Try.prog 36 #[.string s, .int .i64 m] w (NumsOut (Pat.rdP L m).1 (Pat.rdP L m).2 w) := by
  have hls : L.length = s.size := by rw [← hL]; simp
  have HVO := hid (varyOf_any s w hs)
  rw [hL, hrd] at HVO
  have hmI : (m : Int) ≤ 64 := by omega
  have haI : (a : Int) ≤ 18446744073709551615 := by omega
  have hkI : (k : Int) ≤ 281474976710656 := by omega
  subst he
  have hF := Pat.fr_ok (many := m) hrd
  obtain ⟨t, ht⟩ : ∃ t, t = L.drop k := ⟨_, rfl⟩
  rw [← ht] at hF
  have htl : t.length ≤ 281474976710656 := by rw [ht, List.length_drop]; omega
  have hI1 := fun wx : World => run_from (P := Try.prog) (w := wx) Try.underlying9 s .i64 k (by omega)
  rw [hL, ← ht] at hI1
  obtain ⟨XT, hXT⟩ : ∃ S : ByteArray, S = ⟨t.toArray⟩ := ⟨_, rfl⟩
  rw [← hXT] at hI1
  have hXs : XT.size = t.length := by rw [hXT, str_size]
  rw [hcd] at ht
  subst ht
  rw [Pat.fr1_cons] at hF
  have hul : u.length ≤ 281474976710656 := by rw [List.length_cons, List.length_cons] at htl; omega
  have hXd : XT.data.toList = c :: d :: u := by rw [hXT]
  have h2I : (2 : Int) ≤ (XT.size : Int) := by rw [hXs]; simp only [List.length_cons]; omega
  have hxI : (XT.size : Int) ≤ 281474976710656 := by omega
  have hJ0 := fun wx : World => run_ix0 (P := Try.prog) (w := wx) Try.underlying9 XT .i64 c (d :: u) hXd
  have hJ1 := fun wx : World => run_ix (P := Try.prog) (w := wx) Try.underlying9 XT .i64 1 d (by rw [hXd]; rfl)
  have i11 : ((1 : Nat) : Int) = 1 := rfl
  rw [i11] at hJ1
  have hJ2 := fun wx : World => run_from (P := Try.prog) (w := wx) Try.underlying9 XT .i64 2 (by omega)
  have i22 : ((2 : Nat) : Int) = 2 := rfl
  rw [hXd, i22, show (c :: d :: u).drop 2 = u from rfl] at hJ2
  obtain ⟨XU, hXU⟩ : ∃ S : ByteArray, S = ⟨u.toArray⟩ := ⟨_, rfl⟩
  rw [← hXU] at hJ2
  have hXUs : XU.size = u.length := by rw [hXU, str_size]
  have hXUd : XU.data.toList = u := by rw [hXU]
  have hcI : (c.toNat : Int) ≤ 255 := by have := c.toNat_lt; omega
  have hdI : (d.toNat : Int) ≤ 255 := by have := d.toNat_lt; omega
  rw [Pat.fr2_wide h64] at hF
  rw [Pat.rdP_err hm (by rw [hF]; decide), hF]
  have hcw : 64 < (c.toNat : Int) := by omega
  clear hL hs hm hrd hk ha hls hF htl hXT hXs h64 hul hXd hXU hXUs hXUd hcd
  generalize c.toNat = wd at *
  generalize d.toNat = q at *
  go_enter Try.func36, Try.ntmps36
  go_wp2_with fail
  refine Calls.mono HVO.out ?_
  rintro e w1 ⟨rfl, hx⟩
  have HX1 := hid hx
  clear hx
  go_wp2_with fail
  go_quiet (fail)
  have HX1b := hid (Ext.draws HX1.out nq)
  clear HX1
  have HX1 := HX1b
  clear HX1b
  go_wp2
  go_returns
  exact ⟨none, 0, rfl, fun h => by simp [u64s] at h, HX1.out⟩
set_option maxHeartbeats 1600000 in
theorem patchOf_short2 (s : ByteArray) (L : List UInt8) (hL : s.data.toList = L) (m : Nat) (w : World) (hs : s.size ≤ 281474976710656) (hm : m ≤ 64) (a k e0 : Nat) (hrd : Vary.rd L = (a, k, e0)) (hk : k ≤ L.length) (ha : a < 18446744073709551616) (he : e0 = 0) (c d : UInt8) (u : List UInt8) (hcd : L.drop k = c :: d :: u) (h64 : ¬ 64 < c.toNat) (h5 : u.length < Bits.size m c.toNat) :
    Calls Try.prog 36 #[.string s, .int .i64 m] w (NumsOut (Pat.rdP L m).1 (Pat.rdP L m).2 w) := by
  have hls : L.length = s.size := by rw [← hL]; simp
  have HVO := hid (varyOf_any s w hs)
  rw [hL, hrd] at HVO
  have hmI : (m : Int) ≤ 64 := by omega
  have haI : (a : Int) ≤ 18446744073709551615 := by omega
  have hkI : (k : Int) ≤ 281474976710656 := by omega
  subst he
  have hF := Pat.fr_ok (many := m) hrd
  obtain ⟨t, ht⟩ : ∃ t, t = L.drop k := ⟨_, rfl⟩
  rw [← ht] at hF
  have htl : t.length ≤ 281474976710656 := by rw [ht, List.length_drop]; omega
  have hI1 := fun wx : World => run_from (P := Try.prog) (w := wx) Try.underlying9 s .i64 k (by omega)
  rw [hL, ← ht] at hI1
  obtain ⟨XT, hXT⟩ : ∃ S : ByteArray, S = ⟨t.toArray⟩ := ⟨_, rfl⟩
  rw [← hXT] at hI1
  have hXs : XT.size = t.length := by rw [hXT, str_size]
  rw [hcd] at ht
  subst ht
  rw [Pat.fr1_cons] at hF
  have hul : u.length ≤ 281474976710656 := by rw [List.length_cons, List.length_cons] at htl; omega
  have hXd : XT.data.toList = c :: d :: u := by rw [hXT]
  have h2I : (2 : Int) ≤ (XT.size : Int) := by rw [hXs]; simp only [List.length_cons]; omega
  have hxI : (XT.size : Int) ≤ 281474976710656 := by omega
  have hJ0 := fun wx : World => run_ix0 (P := Try.prog) (w := wx) Try.underlying9 XT .i64 c (d :: u) hXd
  have hJ1 := fun wx : World => run_ix (P := Try.prog) (w := wx) Try.underlying9 XT .i64 1 d (by rw [hXd]; rfl)
  have i11 : ((1 : Nat) : Int) = 1 := rfl
  rw [i11] at hJ1
  have hJ2 := fun wx : World => run_from (P := Try.prog) (w := wx) Try.underlying9 XT .i64 2 (by omega)
  have i22 : ((2 : Nat) : Int) = 2 := rfl
  rw [hXd, i22, show (c :: d :: u).drop 2 = u from rfl] at hJ2
  obtain ⟨XU, hXU⟩ : ∃ S : ByteArray, S = ⟨u.toArray⟩ := ⟨_, rfl⟩
  rw [← hXU] at hJ2
  have hXUs : XU.size = u.length := by rw [hXU, str_size]
  have hXUd : XU.data.toList = u := by rw [hXU]
  have hcI : (c.toNat : Int) ≤ 255 := by have := c.toNat_lt; omega
  have hdI : (d.toNat : Int) ≤ 255 := by have := d.toNat_lt; omega
  have hcw : (c.toNat : Int) ≤ 64 := by omega
  have hmul : (m : Int) * (c.toNat : Int) = ((m * c.toNat : Nat) : Int) := by simp
  have hmb : m * c.toNat ≤ 4096 := Nat.mul_le_mul hm (show c.toNat ≤ 64 by omega)
  have hsz : (((m * c.toNat : Nat) : Int) + 7) / 8 = (Bits.size m c.toNat : Nat) := by unfold Bits.size; omega
  have hszt : (((m * c.toNat : Nat) : Int) + 7).tdiv 8 = (Bits.size m c.toNat : Nat) := by rw [Int.tdiv_eq_ediv_of_nonneg (by omega)]; exact hsz
  have hszb : Bits.size m c.toNat ≤ 512 := by unfold Bits.size; omega
  have hmbI : ((m * c.toNat : Nat) : Int) ≤ 4096 := by omega
  have hszI : ((Bits.size m c.toNat : Nat) : Int) ≤ 512 := by omega
  rw [Pat.fr2_short h64 h5] at hF
  rw [Pat.rdP_err hm (by rw [hF]; decide), hF]
  have h5I : (XU.size : Int) < (Bits.size m c.toNat : Nat) := by omega
  clear hL hs hm hrd hk ha hls hF htl hXT hXs h64 hul hXd hXU hXUs hXUd hcd h5 hmb hszb
  generalize m * c.toNat = mw at *
  generalize Bits.size m c.toNat = sz at *
  generalize c.toNat = wd at *
  generalize d.toNat = q at *
  go_enter Try.func36, Try.ntmps36
  go_wp2_with fail
  refine Calls.mono HVO.out ?_
  rintro e w1 ⟨rfl, hx⟩
  have HX1 := hid hx
  clear hx
  go_wp2_with fail
  go_quiet (fail)
  have HX1b := hid (Ext.draws HX1.out nq)
  clear HX1
  have HX1 := HX1b
  clear HX1b
  go_wp2
  go_returns
  exact ⟨none, 0, rfl, fun h => by simp [u64s] at h, HX1.out⟩
set_option maxHeartbeats 1600000 in
theorem patchOf_bad (s : ByteArray) (L : List UInt8) (hL : s.data.toList = L) (m : Nat) (w : World) (hs : s.size ≤ 281474976710656) (hm : m ≤ 64) (a k e0 : Nat) (hrd : Vary.rd L = (a, k, e0)) (hk : k ≤ L.length) (ha : a < 18446744073709551616) (he : e0 = 0) (c d : UInt8) (u : List UInt8) (hcd : L.drop k = c :: d :: u) (h64 : ¬ 64 < c.toNat) (h5 : ¬ u.length < Bits.size m c.toNat) (h6 : Bits.chk (u.take (Bits.size m c.toNat)) m c.toNat ≠ 0) :
    Calls Try.prog 36 #[.string s, .int .i64 m] w (NumsOut (Pat.rdP L m).1 (Pat.rdP L m).2 w) := by
  have hls : L.length = s.size := by rw [← hL]; simp
  have HVO := hid (varyOf_any s w hs)
  rw [hL, hrd] at HVO
  have hmI : (m : Int) ≤ 64 := by omega
  have haI : (a : Int) ≤ 18446744073709551615 := by omega
  have hkI : (k : Int) ≤ 281474976710656 := by omega
  subst he
  have hF := Pat.fr_ok (many := m) hrd
  obtain ⟨t, ht⟩ : ∃ t, t = L.drop k := ⟨_, rfl⟩
  rw [← ht] at hF
  have htl : t.length ≤ 281474976710656 := by rw [ht, List.length_drop]; omega
  have hI1 := fun wx : World => run_from (P := Try.prog) (w := wx) Try.underlying9 s .i64 k (by omega)
  rw [hL, ← ht] at hI1
  obtain ⟨XT, hXT⟩ : ∃ S : ByteArray, S = ⟨t.toArray⟩ := ⟨_, rfl⟩
  rw [← hXT] at hI1
  have hXs : XT.size = t.length := by rw [hXT, str_size]
  rw [hcd] at ht
  subst ht
  rw [Pat.fr1_cons] at hF
  have hul : u.length ≤ 281474976710656 := by rw [List.length_cons, List.length_cons] at htl; omega
  have hXd : XT.data.toList = c :: d :: u := by rw [hXT]
  have h2I : (2 : Int) ≤ (XT.size : Int) := by rw [hXs]; simp only [List.length_cons]; omega
  have hxI : (XT.size : Int) ≤ 281474976710656 := by omega
  have hJ0 := fun wx : World => run_ix0 (P := Try.prog) (w := wx) Try.underlying9 XT .i64 c (d :: u) hXd
  have hJ1 := fun wx : World => run_ix (P := Try.prog) (w := wx) Try.underlying9 XT .i64 1 d (by rw [hXd]; rfl)
  have i11 : ((1 : Nat) : Int) = 1 := rfl
  rw [i11] at hJ1
  have hJ2 := fun wx : World => run_from (P := Try.prog) (w := wx) Try.underlying9 XT .i64 2 (by omega)
  have i22 : ((2 : Nat) : Int) = 2 := rfl
  rw [hXd, i22, show (c :: d :: u).drop 2 = u from rfl] at hJ2
  obtain ⟨XU, hXU⟩ : ∃ S : ByteArray, S = ⟨u.toArray⟩ := ⟨_, rfl⟩
  rw [← hXU] at hJ2
  have hXUs : XU.size = u.length := by rw [hXU, str_size]
  have hXUd : XU.data.toList = u := by rw [hXU]
  have hcI : (c.toNat : Int) ≤ 255 := by have := c.toNat_lt; omega
  have hdI : (d.toNat : Int) ≤ 255 := by have := d.toNat_lt; omega
  have hcw : (c.toNat : Int) ≤ 64 := by omega
  have hmul : (m : Int) * (c.toNat : Int) = ((m * c.toNat : Nat) : Int) := by simp
  have hmb : m * c.toNat ≤ 4096 := Nat.mul_le_mul hm (show c.toNat ≤ 64 by omega)
  have hsz : (((m * c.toNat : Nat) : Int) + 7) / 8 = (Bits.size m c.toNat : Nat) := by unfold Bits.size; omega
  have hszt : (((m * c.toNat : Nat) : Int) + 7).tdiv 8 = (Bits.size m c.toNat : Nat) := by rw [Int.tdiv_eq_ediv_of_nonneg (by omega)]; exact hsz
  have hszb : Bits.size m c.toNat ≤ 512 := by unfold Bits.size; omega
  have hmbI : ((m * c.toNat : Nat) : Int) ≤ 4096 := by omega
  have hszI : ((Bits.size m c.toNat : Nat) : Int) ≤ 512 := by omega
  have h5I : ((Bits.size m c.toNat : Nat) : Int) ≤ (XU.size : Int) := by omega
  have hJ3 := fun wx : World => run_to (P := Try.prog) (w := wx) Try.underlying9 XU .i64 (Bits.size m c.toNat) (by omega)
  have hJ4 := fun wx : World => run_from (P := Try.prog) (w := wx) Try.underlying9 XU .i64 (Bits.size m c.toNat) (by omega)
  rw [hXUd] at hJ3 hJ4
  have HU := hid (fun wx => unpackOf_own ⟨(u.take (Bits.size m c.toNat)).toArray⟩ (m : Int) (c.toNat : Int) wx (by rw [str_size, List.length_take]; omega))
  rw [show (⟨(u.take (Bits.size m c.toNat)).toArray⟩ : ByteArray).data.toList = u.take (Bits.size m c.toNat) by simp] at HU
  obtain ⟨XP, hXP⟩ : ∃ S : ByteArray, S = ⟨(u.take (Bits.size m c.toNat)).toArray⟩ := ⟨_, rfl⟩
  obtain ⟨XR, hXR⟩ : ∃ S : ByteArray, S = ⟨(u.drop (Bits.size m c.toNat)).toArray⟩ := ⟨_, rfl⟩
  rw [← hXP] at hJ3 HU
  rw [← hXR] at hJ4
  have HXR := hid hXR
  unfold NumsOwn at HU
  rw [Pat.fr2_bad h64 h5 h6] at hF
  rw [Pat.rdP_err hm (by rw [hF]; exact h6), hF]
  have hE := Bits.chk_cases (u.take (Bits.size m c.toNat)) m c.toNat
  generalize Bits.chk (u.take (Bits.size m c.toNat)) m c.toNat = E at *
  have hEI : (E : Int) ≤ 3 := by omega
  have h7 : ((E : Int) != 0) = true := by rw [bne_iff_ne]; omega
  have h8 : ((E : Int) == 0) = false := by rw [beq_eq_false_iff_ne]; omega
  generalize Bits.up (u.take (Bits.size m c.toNat)) m c.toNat = U at *
  clear hL hs hm hrd hk ha hls hF htl hXT hXs h64 hul hXd hXU hXUs hXUd hcd h5 hmb hszb hXP hXR h6 hE
  generalize m * c.toNat = mw at *
  generalize Bits.size m c.toNat = sz at *
  generalize c.toNat = wd at *
  generalize d.toNat = q at *
  go_enter Try.func36, Try.ntmps36
  go_wp2_with fail
  refine Calls.mono HVO.out ?_
  rintro e w1 ⟨rfl, hx⟩
  have HX1 := hid hx
  clear hx
  go_wp2_with fail
  go_quiet (fail)
  have HX1b := hid (Ext.draws HX1.out nq)
  clear HX1
  have HX1 := HX1b
  clear HX1b
  go_wp2_with fail
  refine Calls.mono (HU.out _) ?_
  rintro e w2 ⟨v, rfl, hown, hx⟩
  have HX2 := hid (HX1.out.then hx)
  have HOW := hid (own_lower hown HX1.out.size)
  clear hown hx
  go_wp2
  go_returns
  exact ⟨none, 0, rfl, fun h => by simp [u64s] at h, HX2.out⟩
set_option maxRecDepth 100000 in
set_option maxHeartbeats 6400000 in
theorem patchOf_loop (s : ByteArray) (L : List UInt8) (hL : s.data.toList = L) (m : Nat) (w : World) (hs : s.size ≤ 281474976710656) (hm : m ≤ 64) (a k e0 : Nat) (hrd : Vary.rd L = (a, k, e0)) (hk : k ≤ L.length) (ha : a < 18446744073709551616) (he : e0 = 0) (c d : UInt8) (u : List UInt8) (hcd : L.drop k = c :: d :: u) (h64 : ¬ 64 < c.toNat) (h5 : ¬ u.length < Bits.size m c.toNat) (h6 : Bits.chk (u.take (Bits.size m c.toNat)) m c.toNat = 0) :
    Calls Try.prog 36 #[.string s, .int .i64 m] w (NumsOut (Pat.rdP L m).1 (Pat.rdP L m).2 w) := by
  have hls : L.length = s.size := by rw [← hL]; simp
  have HVO := hid (varyOf_any s w hs)
  rw [hL, hrd] at HVO
  have hmI : (m : Int) ≤ 64 := by omega
  have haI : (a : Int) ≤ 18446744073709551615 := by omega
  have hkI : (k : Int) ≤ 281474976710656 := by omega
  subst he
  have hF := Pat.fr_ok (many := m) hrd
  obtain ⟨t, ht⟩ : ∃ t, t = L.drop k := ⟨_, rfl⟩
  rw [← ht] at hF
  have htl : t.length ≤ 281474976710656 := by rw [ht, List.length_drop]; omega
  have hI1 := fun wx : World => run_from (P := Try.prog) (w := wx) Try.underlying9 s .i64 k (by omega)
  rw [hL, ← ht] at hI1
  obtain ⟨XT, hXT⟩ : ∃ S : ByteArray, S = ⟨t.toArray⟩ := ⟨_, rfl⟩
  rw [← hXT] at hI1
  have hXs : XT.size = t.length := by rw [hXT, str_size]
  rw [hcd] at ht
  subst ht
  rw [Pat.fr1_cons] at hF
  have hul : u.length ≤ 281474976710656 := by rw [List.length_cons, List.length_cons] at htl; omega
  have hXd : XT.data.toList = c :: d :: u := by rw [hXT]
  have h2I : (2 : Int) ≤ (XT.size : Int) := by rw [hXs]; simp only [List.length_cons]; omega
  have hxI : (XT.size : Int) ≤ 281474976710656 := by omega
  have hJ0 := fun wx : World => run_ix0 (P := Try.prog) (w := wx) Try.underlying9 XT .i64 c (d :: u) hXd
  have hJ1 := fun wx : World => run_ix (P := Try.prog) (w := wx) Try.underlying9 XT .i64 1 d (by rw [hXd]; rfl)
  have i11 : ((1 : Nat) : Int) = 1 := rfl
  rw [i11] at hJ1
  have hJ2 := fun wx : World => run_from (P := Try.prog) (w := wx) Try.underlying9 XT .i64 2 (by omega)
  have i22 : ((2 : Nat) : Int) = 2 := rfl
  rw [hXd, i22, show (c :: d :: u).drop 2 = u from rfl] at hJ2
  obtain ⟨XU, hXU⟩ : ∃ S : ByteArray, S = ⟨u.toArray⟩ := ⟨_, rfl⟩
  rw [← hXU] at hJ2
  have hXUs : XU.size = u.length := by rw [hXU, str_size]
  have hXUd : XU.data.toList = u := by rw [hXU]
  have hcI : (c.toNat : Int) ≤ 255 := by have := c.toNat_lt; omega
  have hdI : (d.toNat : Int) ≤ 255 := by have := d.toNat_lt; omega
  have hcw : (c.toNat : Int) ≤ 64 := by omega
  have hmul : (m : Int) * (c.toNat : Int) = ((m * c.toNat : Nat) : Int) := by simp
  have hmb : m * c.toNat ≤ 4096 := Nat.mul_le_mul hm (show c.toNat ≤ 64 by omega)
  have hsz : (((m * c.toNat : Nat) : Int) + 7) / 8 = (Bits.size m c.toNat : Nat) := by unfold Bits.size; omega
  have hszt : (((m * c.toNat : Nat) : Int) + 7).tdiv 8 = (Bits.size m c.toNat : Nat) := by rw [Int.tdiv_eq_ediv_of_nonneg (by omega)]; exact hsz
  have hszb : Bits.size m c.toNat ≤ 512 := by unfold Bits.size; omega
  have hmbI : ((m * c.toNat : Nat) : Int) ≤ 4096 := by omega
  have hszI : ((Bits.size m c.toNat : Nat) : Int) ≤ 512 := by omega
  have h5I : ((Bits.size m c.toNat : Nat) : Int) ≤ (XU.size : Int) := by omega
  have hJ3 := fun wx : World => run_to (P := Try.prog) (w := wx) Try.underlying9 XU .i64 (Bits.size m c.toNat) (by omega)
  have hJ4 := fun wx : World => run_from (P := Try.prog) (w := wx) Try.underlying9 XU .i64 (Bits.size m c.toNat) (by omega)
  rw [hXUd] at hJ3 hJ4
  have HU := hid (fun wx => unpackOf_own ⟨(u.take (Bits.size m c.toNat)).toArray⟩ (m : Int) (c.toNat : Int) wx (by rw [str_size, List.length_take]; omega))
  rw [show (⟨(u.take (Bits.size m c.toNat)).toArray⟩ : ByteArray).data.toList = u.take (Bits.size m c.toNat) by simp] at HU
  obtain ⟨XP, hXP⟩ : ∃ S : ByteArray, S = ⟨(u.take (Bits.size m c.toNat)).toArray⟩ := ⟨_, rfl⟩
  obtain ⟨XR, hXR⟩ : ∃ S : ByteArray, S = ⟨(u.drop (Bits.size m c.toNat)).toArray⟩ := ⟨_, rfl⟩
  rw [← hXP] at hJ3 HU
  rw [← hXR] at hJ4
  have HXR := hid hXR
  unfold NumsOwn at HU
  rw [Pat.fr2_ok h64 h5 h6] at hF
  have HUP := hid (Bits.up_ok _ _ _ h6)
  simp only [Int.toNat_natCast] at HUP
  rw [h6, HUP.out] at HU
  have HUL := hid (Bits.unp_len (u.take (Bits.size m c.toNat)) m c.toNat)
  have HUX := hid (show ∀ z ∈ Bits.unp (u.take (Bits.size m c.toNat)) m c.toNat, z < 18446744073709551616 from fun z hz => by
    have h1 := Bits.unp_lt _ _ _ z hz
    have h2 : 2 ^ c.toNat ≤ 2 ^ 64 := Nat.pow_le_pow_right (by decide) (by omega)
    omega)
  generalize Bits.unp (u.take (Bits.size m c.toNat)) m c.toNat = U at *
  rw [HUL.out] at HU
  have HUD := hid hul
  have HM := hid hm
  have HF := hid hF
  have HWD := hid (show c.toNat ≤ 9223372036854775806 by omega)
  clear hL hs hm hrd hk ha hls hF htl hXT hXs h64 hul hXd hXU hXUs hXUd hcd h5 hmb hszb hXP hXR h6 HUP
  generalize m * c.toNat = mw at *
  generalize Bits.size m c.toNat = sz at *
  generalize c.toNat = wd at *
  generalize d.toNat = q at *
  go_enter Try.func36, Try.ntmps36
  go_wp2_with fail
  refine Calls.mono HVO.out ?_
  rintro e w1 ⟨rfl, hx⟩
  have HX1 := hid hx
  clear hx
  go_wp2_with fail
  go_quiet (fail)
  have HX1b := hid (Ext.draws HX1.out nq)
  clear HX1
  have HX1 := HX1b
  clear HX1b
  go_wp2_with fail
  refine Calls.mono (HU.out _) ?_
  rintro e w2 ⟨v, rfl, hown, hx⟩
  have HX2 := hid (HX1.out.then hx)
  have HOW := hid (own_lower hown HX1.out.size)
  clear hown hx
  obtain ⟨V, cv, rfl, _⟩ := Rd.owned HOW.out
  go_wp2
  go_loopw [0, 13, 14, 15, 16, 17, 18] (fun s9 l9 c9 _ _ _ _ wr => ∃ (j : Nat) (last : Int) (M : List Nat) (x : List UInt8), j ≤ q ∧ c9 = .int .i64 j ∧ l9 = .int .i64 last ∧ s9 = .string ⟨x.toArray⟩ ∧ -1 ≤ last ∧ last ≤ 255 ∧ Hid (Pat.onS wd q U (-1) (u.drop sz) = Pat.onS wd (q - j) M last x) ∧ Hid (M.length = m) ∧ Hid (x.length ≤ 281474976710656) ∧ Hid (∀ z ∈ M, z < 18446744073709551616) ∧ Hid (wr.ownsRow w.heap.size 33 1 (.slice V m cv) m (u64s M)) ∧ Hid (Ext w wr)) (fun _ _ c9 _ _ _ _ _ => q - (intOf c9).toNat)
  case atStart => exact ⟨0, -1, U, u.drop sz, Nat.zero_le _, rfl, rfl, by rw [HXR.out], by omega, by omega, hid rfl, HUL, hid (by have := HUD.out; rw [List.length_drop]; omega), HUX, HOW, HX2⟩
  case round =>
    obtain ⟨j, last, M, x, hj, rfl, rfl, rfl, hl0, hl1, HON, HML, HXL, HMX, HO, HX⟩ := hrel
    by_cases hlt : j < q
    · have hjI : (j : Int) < (q : Int) := by omega
      obtain ⟨r, hr⟩ : ∃ r, q - j = r + 1 := ⟨q - j - 1, by omega⟩
      rw [hr] at HON
      have HQJ := hid (show q - (j + 1) = r by omega)
      have HS := hid (Pat.onS_succ wd r M last x)
      clear hr
      have hxl : x.length ≤ 281474976710656 := HXL.out
      obtain ⟨XX, hXX⟩ : ∃ S : ByteArray, S = ⟨x.toArray⟩ := ⟨_, rfl⟩
      rw [← hXX]
      have hXXs : XX.size = x.length := by rw [hXX, str_size]
      have hXXI : (XX.size : Int) ≤ 281474976710656 := by omega
      cases x with
      | nil =>
        have HEE := hid (Pat.onE_nil (w := wd) (M := M) (last := last))
        have HR := hid (show Pat.rdP L (m : Int) = ([], 5) by
          have h1 : (Pat.onS wd q U (-1) (u.drop sz)).1 = 5 := by rw [HON.out, HS.out, HEE.out, if_pos (by show (5 : Nat) ≠ 0; decide)]
          have h2 : Pat.fr L m = (5, 0, []) := by rw [HF.out, Pat.fr3_err (by rw [h1]; decide), h1]
          rw [Pat.rdP_err HM.out (by rw [h2]; decide), h2])
        have hz : (XX.size : Int) = 0 := by rw [hXXs]; rfl
        clear hXX hXXs hlt hxl
        go_wp2
        go_returns
        rw [HR.out]
        exact ⟨none, 0, rfl, fun h => by simp [u64s] at h, HX.out⟩
      | cons y t =>
        have h1I : (1 : Int) ≤ (XX.size : Int) := by rw [hXXs, List.length_cons]; omega
        have hXd : XX.data.toList = y :: t := by rw [hXX]
        have hI0 := fun wx : World => run_ix0 (P := Try.prog) (w := wx) Try.underlying9 XX .i64 y t hXd
        have hI2 := fun wx : World => run_from (P := Try.prog) (w := wx) Try.underlying9 XX .i64 1 (by omega)
        have i11 : ((1 : Nat) : Int) = 1 := rfl
        rw [hXd, i11, show (y :: t).drop 1 = t from rfl] at hI2
        obtain ⟨XY, hXY⟩ : ∃ S : ByteArray, S = ⟨t.toArray⟩ := ⟨_, rfl⟩
        rw [← hXY] at hI2
        have hyI : (y.toNat : Int) ≤ 255 := by have := y.toNat_lt; omega
        have hml : M.length = m := HML.out
        have htl : t.length ≤ 281474976710655 := by rw [List.length_cons] at hxl; omega
        by_cases c1 : M.length ≤ y.toNat
        · have HEE := hid (Pat.onE_range (w := wd) (last := last) (t := t) c1)
          have HR := hid (show Pat.rdP L (m : Int) = ([], 3) by
            have h1 : (Pat.onS wd q U (-1) (u.drop sz)).1 = 3 := by rw [HON.out, HS.out, HEE.out, if_pos (by show (3 : Nat) ≠ 0; decide)]
            have h2 : Pat.fr L m = (3, 0, []) := by rw [HF.out, Pat.fr3_err (by rw [h1]; decide), h1]
            rw [Pat.rdP_err HM.out (by rw [h2]; decide), h2])
          have g1 : (m : Int) ≤ (y.toNat : Int) := by omega
          clear hXX hXXs hlt hxl hXd hXY hml htl c1
          generalize y.toNat = z at *
          go_wp2
          go_returns
          rw [HR.out]
          exact ⟨none, 0, rfl, fun h => by simp [u64s] at h, HX.out⟩
        by_cases c2 : (y.toNat : Int) ≤ last
        · have HEE := hid (Pat.onE_state (w := wd) (t := t) c1 c2)
          have HR := hid (show Pat.rdP L (m : Int) = ([], 4) by
            have h1 : (Pat.onS wd q U (-1) (u.drop sz)).1 = 4 := by rw [HON.out, HS.out, HEE.out, if_pos (by show (4 : Nat) ≠ 0; decide)]
            have h2 : Pat.fr L m = (4, 0, []) := by rw [HF.out, Pat.fr3_err (by rw [h1]; decide), h1]
            rw [Pat.rdP_err HM.out (by rw [h2]; decide), h2])
          have g1 : (y.toNat : Int) < (m : Int) := by omega
          clear hXX hXXs hlt hxl hXd hXY hml htl c1
          generalize y.toNat = z at *
          go_wp2
          go_returns
          rw [HR.out]
          exact ⟨none, 0, rfl, fun h => by simp [u64s] at h, HX.out⟩
        obtain ⟨x0, hx0⟩ : ∃ x0, M[y.toNat]? = some x0 := ⟨M[y.toNat]'(by omega), List.getElem?_eq_getElem (by omega)⟩
        have hx0l := HMX.out x0 (List.mem_of_getElem? hx0)
        have hx0I : (x0 : Int) ≤ 18446744073709551615 := by omega
        have g1 : (y.toNat : Int) < (m : Int) := by omega
        have hgd : M.getD y.toNat 0 = x0 := by rw [List.getD_eq_getElem?_getD, hx0]; rfl
        have hcel : (u64s M)[y.toNat]? = some (.int .u64 (x0 : Int)) := by unfold u64s; rw [List.getElem?_map, hx0]; rfl
        obtain ⟨g3, c3, hv3, hbg, hg3, cur, hb3⟩ := own_base HO.out (by omega)
        cases hv3
        have d0 := HO.out.cellAt y.toNat (by omega)
        have f0 := HO.out.frozenAt y.toNat
        rw [hcel] at d0
        have HBG := hid hbg
        by_cases c3 : x0 = 0
        rotate_left
        · have HEE := hid (Pat.onE_form (w := wd) (t := t) c1 c2 (by rw [hgd]; exact c3))
          have HR := hid (show Pat.rdP L (m : Int) = ([], 1) by
            have h1 : (Pat.onS wd q U (-1) (u.drop sz)).1 = 1 := by rw [HON.out, HS.out, HEE.out, if_pos (by show (1 : Nat) ≠ 0; decide)]
            have h2 : Pat.fr L m = (1, 0, []) := by rw [HF.out, Pat.fr3_err (by rw [h1]; decide), h1]
            rw [Pat.rdP_err HM.out (by rw [h2]; decide), h2])
          have e3 : ((x0 : Int) != 0) = true := by rw [bne_iff_ne]; omega
          have e4 : ((x0 : Int) == 0) = false := by rw [beq_eq_false_iff_ne]; omega
          clear hXX hXXs hlt hxl hXd hXY hml htl hx0 hx0l hgd hcel hb3 hg3 c1 hbg c3
          generalize y.toNat = z at *
          go_wp2
          go_returns
          rw [HR.out]
          exact ⟨none, 0, rfl, fun h => by simp [u64s] at h, HX.out⟩
        subst c3
        have hXYs : XY.size ≤ 281474976710656 := by rw [hXY, str_size]; omega
        have CV := hid (fun wx => varyOf_any XY wx hXYs)
        rw [show XY.data.toList = t by rw [hXY]] at CV
        obtain ⟨⟨n, kk, ee⟩, hrt⟩ : ∃ p, Vary.rd t = p := ⟨_, rfl⟩
        have hbd := Vary.rd_bd t
        rw [hrt] at CV hbd
        simp only at hbd CV
        have hnI : (n : Int) ≤ 18446744073709551615 := by omega
        have hkkI : (kk : Int) ≤ (t.length : Int) := by omega
        have hkk2 : (kk : Int) ≤ 281474976710655 := by omega
        have heI : (ee : Int) ≤ 5 := by omega
        by_cases c4 : ee = 0
        rotate_left
        · have HEE := hid (Pat.onE_vary (w := wd) c1 c2 hgd hrt c4)
          have HC4 := hid c4
          have HR := hid (show Pat.rdP L (m : Int) = ([], ee) by
            have h1 : (Pat.onS wd q U (-1) (u.drop sz)).1 = ee := by rw [HON.out, HS.out, HEE.out, if_pos (by show (ee : Nat) ≠ 0; exact HC4.out)]
            have h2 : Pat.fr L m = (ee, 0, []) := by rw [HF.out, Pat.fr3_err (by rw [h1]; exact HC4.out), h1]
            rw [Pat.rdP_err HM.out (by rw [h2]; exact HC4.out), h2])
          have e5 : ((ee : Int) != 0) = true := by rw [bne_iff_ne]; omega
          have e6 : ((ee : Int) == 0) = false := by rw [beq_eq_false_iff_ne]; omega
          clear hXX hXXs hlt hxl hXd hXY hml htl hx0 hx0l hgd hcel hb3 hg3 c1 hbg hXYs hrt hbd c4 hkkI
          generalize y.toNat = z at *
          go_wp2_with fail
          refine Calls.mono (CV.out _) ?_
          rintro e w3 ⟨rfl, hx⟩
          have HX3 := hid (HX.out.then hx)
          have HO3 := hid (own_ext HO.out hx)
          clear hx
          go_wp2
          go_returns
          rw [HR.out]
          exact ⟨none, 0, rfl, fun h => by simp [u64s] at h, HX3.out⟩
        subst c4
        have CFI := hid (fun wx => fits_any n wd wx hbd.2.1 HWD.out)
        by_cases c5 : Lib.bitLen n ≤ wd
        · have HEE := hid (Pat.onE_fits c1 c2 hgd hrt c5)
          have HR := hid (show Pat.rdP L (m : Int) = ([], 1) by
            have h1 : (Pat.onS wd q U (-1) (u.drop sz)).1 = 1 := by rw [HON.out, HS.out, HEE.out, if_pos (by show (1 : Nat) ≠ 0; decide)]
            have h2 : Pat.fr L m = (1, 0, []) := by rw [HF.out, Pat.fr3_err (by rw [h1]; decide), h1]
            rw [Pat.rdP_err HM.out (by rw [h2]; decide), h2])
          rw [Bits.fitsB_true c5] at CFI
          clear hXX hXXs hlt hxl hXd hXY hml htl hx0 hx0l hgd hcel hb3 hg3 c1 hbg hXYs hrt hbd c5 hkkI
          generalize y.toNat = z at *
          go_wp2_with fail
          refine Calls.mono (CV.out _) ?_
          rintro e w3 ⟨rfl, hx⟩
          have HX3 := hid (HX.out.then hx)
          have HO3 := hid (own_ext HO.out hx)
          clear hx
          go_wp2_with fail
          refine Calls.mono (CFI.out _) ?_
          rintro e _ ⟨rfl, rfl⟩
          go_wp2
          go_returns
          rw [HR.out]
          exact ⟨none, 0, rfl, fun h => by simp [u64s] at h, HX3.out⟩
        rw [Bits.fitsB_false (by omega)] at CFI
        have HEE := hid (Pat.onE_ok c1 c2 hgd hrt c5)
        have hI3 := fun wx : World => run_from (P := Try.prog) (w := wx) Try.underlying9 XX .i64 (1 + kk) (by rw [hXXs, List.length_cons]; omega)
        have i1k : ((1 + kk : Nat) : Int) = 1 + (kk : Int) := by omega
        rw [hXd, i1k, show (y :: t).drop (1 + kk) = t.drop kk by rw [Nat.add_comm]; rfl] at hI3
        have h1k : 1 + (kk : Int) ≤ (XX.size : Int) := by rw [hXXs, List.length_cons]; omega
        obtain ⟨XZ, hXZ⟩ : ∃ S : ByteArray, S = ⟨(t.drop kk).toArray⟩ := ⟨_, rfl⟩
        rw [← hXZ] at hI3
        have HXZ := hid hXZ
        have HZL := hid (show (t.drop kk).length ≤ 281474976710656 by rw [List.length_drop]; omega)
        have HZN := hid (show y.toNat < M.length by omega)
        have HSET := hid (show (u64s M).set y.toNat (.int .u64 (n : Int)) = u64s (M.set y.toNat n) from u64s_set M y.toNat n)
        have HMX2 := hid (show ∀ z ∈ M.set y.toNat n, z < 18446744073709551616 from fun z hz => by
          rcases List.mem_or_eq_of_mem_set hz with h | rfl
          · exact HMX.out z h
          · exact hbd.2.1)
        have HON2 := hid (show Pat.onS wd q U (-1) (u.drop sz) = Pat.onS wd (q - (j + 1)) (M.set y.toNat n) (y.toNat : Int) (t.drop kk) by rw [HON.out, HS.out, HEE.out, HQJ.out]; rfl)
        have HML2 := hid (show (M.set y.toNat n).length = m by rw [List.length_set]; exact hml)
        clear HON HS HEE
        clear hXX hXXs hlt hxl hXd hXY hml htl hx0 hx0l hgd hcel hb3 hg3 c1 hbg hXYs hrt hbd c5 hkkI hXZ
        generalize M.set y.toNat n = M2 at *
        generalize y.toNat = z at *
        go_wp2_with fail
        refine Calls.mono (CV.out _) ?_
        rintro e w3 ⟨rfl, hx⟩
        have HX3 := hid (HX.out.then hx)
        have HO3 := hid (own_ext HO.out hx)
        have d0 := HO3.out.cellAt z (by have := HZN.out; have := HML.out; omega)
        rw [show (u64s M)[z]? = some (.int .u64 ((M[z]'HZN.out : Nat) : Int)) from u64s_get M z HZN.out] at d0
        have f0 := HO3.out.frozenAt z
        clear hx
        go_wp2_with fail
        refine Calls.mono (CFI.out _) ?_
        rintro e _ ⟨rfl, rfl⟩
        go_wp2
        go_roundw
        case rel => exact ⟨j + 1, z, M2, t.drop kk, by omega, by go_num, rfl, by rw [HXZ.out], by omega, by omega, HON2, HML2, HZL, HMX2, hid (by rw [← HSET.out]; exact own_set HO3.out rfl z _), hid (HX3.out.put (p := ⟨g3, z, none⟩) HBG.out _)⟩
        case measure => simp [intOf] <;> omega
    · obtain rfl : j = q := by omega
      rw [Nat.sub_self] at HON
      have HON2 := hid (show Pat.onS wd j U (-1) (u.drop sz) = (0, M, x) by rw [HON.out]; rfl)
      have hxl : x.length ≤ 281474976710656 := HXL.out
      obtain ⟨XX, hXX⟩ : ∃ S : ByteArray, S = ⟨x.toArray⟩ := ⟨_, rfl⟩
      rw [← hXX]
      have hXXs : XX.size = x.length := by rw [hXX, str_size]
      have hXXI : (XX.size : Int) ≤ 281474976710656 := by omega
      by_cases hx0 : x = []
      · have h2 : Pat.fr L m = (0, a, M) := by rw [HF.out, Pat.fr3_ok (by rw [HON2.out]) (by rw [HON2.out]; exact hx0), HON2.out]
        have HR := hid (show Pat.rdP L (m : Int) = Pat.add a M by rw [Pat.rdP_ok HM.out (by rw [h2]), h2])
        have hz : (XX.size : Int) = 0 := by rw [hXXs, hx0]; rfl
        clear hXX hXXs hx0 h2 hxl hlt HON HON2 HXL hj
        go_wp2
        go_loopw [19] (fun c wr => ∃ (i : Nat), i ≤ m ∧ c = .int .i64 i ∧ Hid (∀ p, p < i → (M.getD p 0) + a < 18446744073709551616) ∧ Hid (wr.ownsRow w.heap.size 33 1 (.slice V m cv) m (u64s ((M.take i).map (· + a) ++ M.drop i))) ∧ Hid (Ext w wr)) (fun c _ => m - (intOf c).toNat)
        case atStart => exact ⟨0, Nat.zero_le _, rfl, hid (fun p h => absurd h (Nat.not_lt_zero _)), hid (by simpa using HO.out), HX⟩
        case round =>
          obtain ⟨i, hi, rfl, HP, HO2, HX5⟩ := hrel
          by_cases hlt : i < m
          · have hiI : (i : Int) < (m : Int) := by omega
            have hil : i < M.length := by rw [HML.out]; exact hlt
            have hxx := HMX.out M[i] (List.getElem_mem hil)
            have HDJ := hid (show M.getD i 0 = M[i] by rw [List.getD_eq_getElem?_getD, List.getElem?_eq_getElem hil]; rfl)
            have hcell : (u64s ((M.take i).map (· + a) ++ M.drop i))[i]? = some (.int .u64 ((M[i] : Nat) : Int)) := by
              unfold u64s
              rw [List.getElem?_map, List.getElem?_append_right (by simp; omega)]
              simp [Nat.min_eq_left (Nat.le_of_lt hil), List.getElem?_eq_getElem hil]
            have HSET := hid (fun z : Nat => show (u64s ((M.take i).map (· + a) ++ M.drop i)).set i (.int .u64 (z : Int)) = u64s ((M.take i).map (· + a) ++ z :: M.drop (i + 1)) by
              rw [u64s_set, List.set_append_right _ _ (by simp; omega), List.length_map, List.length_take, Nat.min_eq_left (Nat.le_of_lt hil), Nat.sub_self, List.drop_eq_getElem_cons hil]; rfl)
            have HTK := hid (show (M.take (i + 1)).map (· + a) ++ M.drop (i + 1) = (M.take i).map (· + a) ++ (M[i] + a) :: M.drop (i + 1) by rw [List.take_succ_eq_append_getElem hil, List.map_append, List.append_assoc]; rfl)
            have HOV := hid (fun h => Pat.add_part (b := a) hil h)
            obtain ⟨g3, c3, hv3, _, hg3, cur, hb3⟩ := own_base HO2.out (by omega)
            cases hv3
            have d0 := HO2.out.cellAt i (by omega)
            have f0 := HO2.out.frozenAt i
            rw [hcell] at d0
            generalize M[i] = y at *
            have hyI : (y : Int) ≤ 18446744073709551615 := by omega
            by_cases hov : y + a < 18446744073709551616
            · have g1 : (y : Int) ≤ 18446744073709551615 - (a : Int) := by omega
              have HOVL := hid hov
              obtain ⟨z, hz⟩ : ∃ z, z = y + a := ⟨_, rfl⟩
              have HZ := hid hz
              have hsum : (y : Int) + (a : Int) = (z : Int) := by omega
              have hzI : (z : Int) ≤ 18446744073709551615 := by omega
              clear hcell hxx hil hz hov hb3 hg3
              go_wp2
              go_roundw
              case rel => exact ⟨i + 1, by omega, by go_num, hid (fun p hp => by
                  rcases Nat.lt_or_ge p i with h | h
                  · exact HP.out p h
                  · obtain rfl : p = i := by omega
                    rw [HDJ.out]; exact HOVL.out), hid (by rw [HTK.out]; have := own_set HO2.out rfl i (.int .u64 (z : Int)); rw [HSET.out] at this; rw [← HZ.out]; exact this), hid (HX5.out.put (p := ⟨g3, i, none⟩) (HO2.out.lt g3 rfl).1 _)⟩
              case measure => simp [intOf] <;> omega
            · have g1 : 18446744073709551615 - (a : Int) < (y : Int) := by omega
              have HAD := hid (HOV.out hov)
              clear hcell hxx hil hov hb3 hg3
              go_wp2
              go_returns
              rw [HR.out, HAD.out]
              exact ⟨none, 0, rfl, fun h => by simp [u64s] at h, HX5.out⟩
          · obtain rfl : i = m := by omega
            have HAD := hid (Pat.add_all (b := a) (M := M) (fun p hp => HP.out p (by rw [HML.out] at hp; exact hp)))
            rw [List.take_of_length_le (by rw [HML.out]; exact Nat.le_refl _), List.drop_eq_nil_of_le (by rw [HML.out]; exact Nat.le_refl _), List.append_nil] at HO2
            go_wp2
            go_returns
            rw [HR.out, HAD.out]
            obtain ⟨_, _, e, hrd, _⟩ := Rd.owned HO2.out
            cases e
            exact ⟨V, cv, by simp only [List.length_map, HML.out]; rfl, hrd, HX5.out⟩
      · have h2 : Pat.fr L m = (1, 0, []) := by rw [HF.out, Pat.fr3_more (by rw [HON2.out]) (by rw [HON2.out]; exact hx0)]
        have HR := hid (show Pat.rdP L (m : Int) = ([], 1) by rw [Pat.rdP_err HM.out (by rw [h2]; decide), h2])
        have hz : (0 : Int) < (XX.size : Int) := by rw [hXXs]; have := List.length_pos_iff.2 hx0; omega
        clear hXX hXXs hx0 h2 hxl hlt HON HON2 HXL hj
        go_wp2
        go_returns
        rw [HR.out]
        exact ⟨none, 0, rfl, fun h => by simp [u64s] at h, HX.out⟩
/-- all ways -/
theorem patchOf_any (s : ByteArray) (many : Int) (w : World) (hs : s.size ≤ 281474976710656) :
    Calls Try.prog 36 #[.string s, .int .i64 many] w (NumsOut (Pat.rdP s.data.toList many).1 (Pat.rdP s.data.toList many).2 w) := by
  by_cases hneg : many < 0
  · rw [Pat.rdP_neg hneg]
    go_enter Try.func36, Try.ntmps36
    go_wp2
    go_returns
    exact ⟨none, 0, rfl, fun h => by simp [u64s] at h, ext_refl _⟩
  by_cases hmany : 64 < many
  · rw [Pat.rdP_many hmany]
    go_enter Try.func36, Try.ntmps36
    go_wp2
    go_returns
    exact ⟨none, 0, rfl, fun h => by simp [u64s] at h, ext_refl _⟩
  obtain ⟨m, rfl⟩ : ∃ m : Nat, many = (m : Int) := ⟨many.toNat, by omega⟩
  have hm : m ≤ 64 := by omega
  obtain ⟨L, hL⟩ : ∃ L, s.data.toList = L := ⟨_, rfl⟩
  rw [hL]
  obtain ⟨⟨a, k, e0⟩, hrd⟩ : ∃ p, Vary.rd L = p := ⟨_, rfl⟩
  have hk : k ≤ L.length := by have := (Vary.rd_bd L).1; rw [hrd] at this; exact this
  have ha : a < 18446744073709551616 := by have := (Vary.rd_bd L).2.1; rw [hrd] at this; exact this
  by_cases he : e0 = 0
  · match hcd : L.drop k with
    | [] => exact patchOf_short s L hL m w hs hm a k e0 hrd hk ha he (by rw [hcd]; decide)
    | [_] => exact patchOf_short s L hL m w hs hm a k e0 hrd hk ha he (by rw [hcd]; simp)
    | c :: d :: u =>
      by_cases h64 : 64 < c.toNat
      · exact patchOf_wide s L hL m w hs hm a k e0 hrd hk ha he c d u hcd h64
      by_cases h5 : u.length < Bits.size m c.toNat
      · exact patchOf_short2 s L hL m w hs hm a k e0 hrd hk ha he c d u hcd h64 h5
      by_cases h6 : Bits.chk (u.take (Bits.size m c.toNat)) m c.toNat = 0
      · exact patchOf_loop s L hL m w hs hm a k e0 hrd hk ha he c d u hcd h64 h5 h6
      · exact patchOf_bad s L hL m w hs hm a k e0 hrd hk ha he c d u hcd h64 h5 h6
  · exact patchOf_vary s L hL m w hs hm a k e0 hrd hk ha he
end Go.Proofs.Ytdblegdbfdhepaa
