/- Delta: the law Even: plain law and walk. -/
import Derived.Test.YtdblegdbfdhepaaDld
namespace Hy.Dlt
open Go
/-- what rises evenly -/
def at' (f s : Nat) : Nat → Nat
  | 0 => f
  | k + 1 => ad (at' f s k) s
def aps (f s : Nat) : Nat → List Nat
  | 0 => []
  | k + 1 => aps f s k ++ [at' f s k]
theorem at_lt (f s k : Nat) (hf : f < 18446744073709551616) : at' f s k < 18446744073709551616 := by
  cases k with
  | zero => exact hf
  | succ k => exact ad_lt _ _
theorem aps_len (f s k : Nat) : (aps f s k).length = k := by induction k with
  | zero => rfl
  | succ k ih => simp [aps, ih]
theorem aps_lt (f s k : Nat) (hf : f < 18446744073709551616) : ∀ x ∈ aps f s k, x < 18446744073709551616 := by
  induction k with
  | zero => simp [aps]
  | succ k ih =>
    intro x hx
    rcases List.mem_append.1 hx with hx | hx
    · exact ih x hx
    · rw [List.mem_singleton] at hx; subst hx; exact at_lt f s k hf
theorem difs_aps (f s k : Nat) (hf : f < 18446744073709551616) (hs : s < 18446744073709551616) : difs 0 (aps f s (k + 1)) = f :: List.replicate k s := by
  induction k with
  | zero => show [sb f 0] = [f]; rw [sb_zero f hf]
  | succ k ih =>
    rw [aps, difs_snoc, ih]
    have h1 : lst 0 (aps f s (k + 1)) = at' f s k := by rw [aps, lst_snoc]
    rw [h1, at', sb_step _ _ (at_lt f s k hf) hs, List.replicate_succ']; rfl
theorem zs_drop (l : List Nat) : zs l = ((difs 0 l).drop 1).map zig := by cases l <;> rfl
theorem bys_len (l : List Nat) (h : l ≠ []) : (bys l).length ≤ 10 + (Hyb.raw (zs l) (Bits.width (zs l))).length := by
  cases l with
  | nil => exact absurd rfl h
  | cons x r =>
    have h4 := Vary.beh_le8 x
    rw [bys_cons, List.length_append, List.length_append, Vary.wr_len, List.length_singleton]; omega
theorem aps_short (f s k : Nat) (hf : f < 18446744073709551616) (hs : s < 18446744073709551616) (h8 : 8 ≤ k) (h63 : k ≤ 63) : (bys (aps f s (k + 1))).length ≤ 20 := by
  have hz : zs (aps f s (k + 1)) = List.replicate k (zig s) := by rw [zs_drop, difs_aps f s k hf hs]; simp
  have hb := bys_len (aps f s (k + 1)) (fun h => by have := congrArg List.length h; rw [aps_len] at this; simp at this)
  have hzl := zs_lt (aps f s (k + 1))
  have hw := Bits.width_le64 _ hzl
  have h1 := Hyb.raw_one (zs (aps f s (k + 1))) _ hw (by rw [hz]; simpa using h8) (by rw [hz]; simp; omega) (Hyb.row_end _ (by rw [hz]; simp; omega) (fun j hj => by
    rw [hz] at hj ⊢
    rw [List.length_replicate] at hj
    simp [List.getElem?_replicate, hj]; omega))
  omega
theorem bys_len_any (l : List Nat) (h : l.length ≤ 64) : (bys l).length ≤ 2000 := by
  by_cases h0 : l = []
  · subst h0; rw [bys_nil]; simp
  · have hb := bys_len l h0
    have hz := zs_lt l
    have hzl := zs_len l
    have hw64 := Bits.width_le64 _ hz
    have h1 : (zs l).length ≤ 64 := by rw [hzl]; omega
    have h2 := Hyb.raw_len (zs l) _ hw64 h1
    have h3 : Bits.size (zs l).length (Bits.width (zs l)) ≤ 512 := by unfold Bits.size; have := Nat.mul_le_mul h1 hw64; omega
    omega
end Hy.Dlt
namespace Go.Proofs.Ytdblegdbfdhepaa
open Go.RowKit Hy
set_option maxHeartbeats 2000000 in
theorem deltaEven_walk (f s : Nat) (many : Int) (w : World) (hf : f < 18446744073709551616) (hs : s < 18446744073709551616) :
    Calls Try.prog 16 #[.int .u64 f, .int .u64 s, .int .i64 many] w fun e w' => e = .returned (.bool true) ∧ Ext w w' := by
  have hfI : (f : Int) ≤ 18446744073709551615 := by omega
  have hsI : (s : Int) ≤ 18446744073709551615 := by omega
  by_cases hlo : many < 1
  · clear hf hs
    go_enter Try.func16, Try.ntmps16
    go_wp2_with fail
    refine Calls.mono (deltaBegun_any _) ?_
    rintro e w1 ⟨rfl, hx⟩
    have X1 := hid hx
    clear hx
    go_wp2
    go_returns
    exact ⟨rfl, X1.out⟩
  by_cases hhi : 64 < many
  · clear hf hs
    go_enter Try.func16, Try.ntmps16
    go_wp2_with fail
    refine Calls.mono (deltaBegun_any _) ?_
    rintro e w1 ⟨rfl, hx⟩
    have X1 := hid hx
    clear hx
    go_wp2
    go_returns
    exact ⟨rfl, X1.out⟩
  obtain ⟨n, rfl⟩ := Int.eq_ofNat_of_zero_le (show 0 ≤ many by omega)
  have hn64 : (n : Int) ≤ 64 := by omega
  have hn1 : (1 : Int) ≤ (n : Int) := by omega
  have HN64 := hid (show n ≤ 64 by omega)
  have HLEN := hid (fun k => Dlt.aps_len f s k)
  have HLT := hid (fun k => Dlt.aps_lt f s k hf)
  have HAT := hid (fun k => Dlt.at_lt f s k hf)
  have HAD := hid (fun k => Dlt.ad_int (Dlt.at' f s k) s)
  obtain ⟨m, hm⟩ : ∃ m, n = m + 1 := ⟨n - 1, by omega⟩
  have HDIF := hid (show Dlt.df (Dlt.aps f s n) = (f :: List.replicate m s, 0) by unfold Dlt.df; rw [if_neg (by rw [Dlt.aps_len]; omega), hm, Dlt.difs_aps f s m hf hs])
  have HWR := hid (show Dlt.wrt (Dlt.aps f s n) = (Dlt.bys (Dlt.aps f s n), 0) by unfold Dlt.wrt; rw [if_neg (by rw [Dlt.aps_len]; omega)])
  have HSH := hid (fun h9 : 9 ≤ n => show (Dlt.bys (Dlt.aps f s n)).length ≤ 20 by rw [hm]; exact Dlt.aps_short f s m hf hs (by omega) (by omega))
  have HBL := hid (Dlt.bys_len_any (Dlt.aps f s n) (by rw [Dlt.aps_len]; omega))
  have HM := hid hm
  clear hf hs hm hlo hhi
  go_enter Try.func16, Try.ntmps16
  go_wp2_with fail
  refine Calls.mono (deltaBegun_any _) ?_
  rintro e w1 ⟨rfl, hx⟩
  have X1 := hid hx
  clear hx
  go_wp2
  go_loopw [0, 7, 8] (fun t v c wr => ∃ k : Nat, k ≤ n ∧ c = .int .i64 k ∧ t = .int .u64 ((Dlt.at' f s k : Nat) : Int) ∧ Hid (wr.ownsRow w.heap.size 33 1 v k (u64s (Dlt.aps f s k))) ∧ Ext w wr) (fun _ _ c _ => n - (intOf c).toNat)
  case atStart => exact ⟨0, Nat.zero_le _, rfl, rfl, hid (World.ownsRow_nil _ _ _ _), X1.out⟩
  case round =>
    obtain ⟨k, hk, rfl, rfl, HO, X⟩ := hrel
    by_cases hlt : k < n
    · have hltI : (k : Int) < (n : Int) := by omega
      have hp := HAT.out k
      have hwx := HAD.out k
      have hy := HAT.out (k + 1)
      have HS := hid (show Dlt.aps f s (k + 1) = Dlt.aps f s k ++ [Dlt.at' f s k] from rfl)
      have HT := hid (show Dlt.at' f s (k + 1) = Dlt.ad (Dlt.at' f s k) s from rfl)
      rw [← HT.out] at hwx
      obtain ⟨y, hyy⟩ : ∃ y, y = Dlt.at' f s (k + 1) := ⟨_, rfl⟩
      rw [← hyy] at hwx hy HT
      have HY := hid hyy
      clear hyy
      generalize Dlt.at' f s k = p at *
      generalize Dlt.aps f s k = L at *
      have hpI : (p : Int) ≤ 18446744073709551615 := by omega
      have hyI : (y : Int) ≤ 18446744073709551615 := by omega
      have HK := hid (show k ≤ 64 by have := HN64.out; omega)
      clear hp hy
      go_wp2_with (at_builtin; refine wpList_app rfl (.tmp 27) (.tmp 29) rowU64 rfl _ k _ rfl (own_ext HO.out ((ext_refl _).new _)) _ 1 (u64s [p]) rfl (Src.rd Try.underlying22 _ 1 1 _ rfl (rd_lit rfl rfl) (u64s_one _) (fun h => by cases h)) (by have := HK.out; unfold maxLen; omega) (by have := HK.out; omega) (by have := X.size; simp; omega) ?_; intro v' w3 hown3 hgrow hat hbel; have O3 := hid hown3; have X3 := hid ((X.new _).trans hbel); clear hown3 hgrow hat hbel)
      go_roundw
      case rel => exact ⟨k + 1, by omega, by go_num, by rw [← HY.out, HT.out], hid (by rw [HS.out, u64s_app]; exact O3.out), X3.out⟩
      case measure => simp [intOf]; omega
    · obtain rfl : k = n := by omega
      obtain ⟨B, c, rfl, hrd, _, hcc, _⟩ := Rd.owned HO.out
      have HRD := hid hrd
      have H1 := hid (fun wx (hx : Ext wr wx) => dDiffs_of (Dlt.aps f s k) _ _ B k c wx (HLEN.out k) (hrd.keep hx) (HLT.out k) (by have := HN64.out; omega) HDIF.out)
      have H2 := hid (fun wx (hx : Ext wr wx) => dWrite_of (Dlt.aps f s k) _ _ B k c wx (HLEN.out k) (hrd.keep hx) hcc (HLT.out k) (by have := HN64.out; omega) HWR.out)
      have hdl : (f :: List.replicate m s).length = k := by rw [HM.out]; simp
      rw [hdl] at H1
      have HIT := hid (fun j (h1 : 1 ≤ j) (h2 : j < k) => show (f :: List.replicate m s)[j]? = some s by
        obtain ⟨i, rfl⟩ : ∃ i, j = i + 1 := ⟨j - 1, by omega⟩
        rw [List.getElem?_cons_succ, List.getElem?_replicate, if_pos (by have := HM.out; omega)])
      obtain ⟨D, hD⟩ : ∃ D, D = f :: List.replicate m s := ⟨_, rfl⟩
      rw [← hD] at H1 HIT hdl
      obtain ⟨V, hV⟩ : ∃ S : ByteArray, S = ⟨(Dlt.bys (Dlt.aps f s k)).toArray⟩ := ⟨_, rfl⟩
      have hVs : V.size = (Dlt.bys (Dlt.aps f s k)).length := by rw [hV, str_size]
      have HVS := hid (fun h9 : 9 ≤ k => show V.size ≤ 20 by rw [hVs]; exact HSH.out h9)
      have hVI : (V.size : Int) ≤ 2000 := by have := HBL.out; omega
      rw [← hV] at H2
      have HDL := hid hdl
      generalize Dlt.at' f s k = fe at *
      clear hrd hcc hdl hD hV hVs hlt
      go_wp2_with fail
      refine Calls.mono (H1.out _ (ext_refl _)) ?_
      rintro e w2 ⟨B1, c1, rfl, hr1, hx⟩
      have E1 := hid hx
      have R1 := hid hr1
      clear hx hr1
      go_wp2_with fail
      refine Calls.mono (H2.out _ E1.out) ?_
      rintro e w3 ⟨rfl, hx⟩
      replace R1 := hid (R1.out.keep hx)
      have XE := hid (X.then (E1.out.then hx))
      clear hx
      go_wp2
      go_loopw [13] (fun c wr => ∃ i : Nat, 1 ≤ i ∧ i ≤ k ∧ c = .int .i64 i ∧ wr = w3) (fun c _ => k - (intOf c).toNat)
      case atStart => exact ⟨1, Nat.le_refl _, by omega, rfl, rfl⟩
      case round =>
        obtain ⟨i, hi1, hik, rfl, rfl⟩ := hrel
        by_cases hlt : i < k
        · have hltI : (i : Int) < (k : Int) := by omega
          obtain ⟨b1, o1, rfl, l1, c1'⟩ := R1.out.num0 (by rw [HDL.out]; omega)
          have d0 := c1' i s (HIT.out i hi1 hlt)
          have h5 : ((s : Int) != (s : Int)) = false := by simp
          clear c1'
          go_wp2
          go_roundw
          case rel => exact ⟨i + 1, by omega, by omega, by go_num, trivial⟩
          case measure => simp [intOf]; omega
        · obtain rfl : i = k := by omega
          by_cases h9 : 9 ≤ i
          · have h9I : (9 : Int) ≤ (i : Int) := by omega
            have h20 : (V.size : Int) ≤ 20 := by have := HVS.out h9; omega
            clear hlt
            go_wp2
            go_returns
            exact ⟨rfl, XE.out⟩
          · have h9I : (i : Int) < 9 := by omega
            clear hlt
            go_wp2
            go_returns
            exact ⟨rfl, XE.out⟩
end Go.Proofs.Ytdblegdbfdhepaa
