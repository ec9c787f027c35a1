/- Delta: the document's zigsOf, DeltaBytes, DeltaOf; the law Writes: walks. -/
import Derived.Test.YtdblegdbfdhepaaDlh
import Derived.Test.YtdblegdbfdhepaaDld
import Derived.Test.YtdblegdbfdhepaaHyh
import Derived.Test.YtdblegdbfdhepaaHyj
namespace Hy.Hyb
open Go
theorem vrd_err (s : List UInt8) : (Vary.rd s).2.2 ≤ 5 := by
  rcases Vary.rd_cases s with e | e | ⟨n, k, e, _⟩ <;> rw [e] <;> simp
theorem stp_bd (w left : Nat) (s : List UInt8) : (stp w left s).1 ≤ 5 := by
  have h := vrd_err s
  unfold stp
  generalize Vary.rd s = r at *
  obtain ⟨n, k, e⟩ := r
  simp only at h ⊢
  repeat' split
  all_goals first | exact h | simp
theorem rdF_bd (w many : Nat) : ∀ (f : Nat) (s : List UInt8) (o : List Nat), (rdF w many f s o).2 ≤ 8
  | 0, s, o => by
    rw [rdF]
    repeat' split
    all_goals simp
  | f + 1, s, o => by
    rw [rdF]
    split
    · split <;> simp
    · split
      · have := stp_bd w (many - o.length) s
        show (stp _ _ _).1 ≤ 8
        omega
      · exact rdF_bd w many f _ _
theorem rdl_bd (s : List UInt8) (many w : Int) : (rdl s many w).2 ≤ 8 := by
  unfold rdl
  split
  · show _ ≤ 8; decide
  · split
    · show _ ≤ 8; decide
    · exact rdF_bd _ _ _ _ _
end Hy.Hyb
namespace Hy.Dlt
open Go
theorem sums_cons (a z : Nat) (l : List Nat) : sums a (z :: l) = ad a z :: sums (ad a z) l := rfl
theorem rst_bd (s : List UInt8) (many : Int) (h : ∀ c t, s = c :: t → (Hyb.rdl t many c.toNat).2 ≤ 8) : (rst s many).2 ≤ 8 := by
  cases s with
  | nil => rw [rst_nil]; decide
  | cons c t =>
    by_cases h1 : (Hyb.rdl t many c.toNat).2 = 0
    · by_cases h2 : Bits.width (Hyb.rdl t many c.toNat).1 = c.toNat
      · rw [rst_ok h1 h2]; simp
      · rw [rst_form h1 h2]; simp
    · rw [rst_bad h1]; exact h c t rfl
end Hy.Dlt
namespace Go.Proofs.Ytdblegdbfdhepaa
open Go.RowKit Hy
set_option maxRecDepth 100000 in
set_option maxHeartbeats 1600000 in
theorem zigsOf_any (l : List Nat) (A : Option Addr) (n cap : Nat) (w : World) (hn : l.length = n + 1) (hr : Rd w A (u64s l)) (hl : ∀ x ∈ l, x < 18446744073709551616) (hnl : n ≤ 1048576) :
    Calls Try.prog 81 #[.slice A (n + 1) cap] w fun e w' => ∃ B c, e = .returned (.slice B n c) ∧ Rd w' B (u64s (Dlt.zs l)) ∧ Ext w w' ∧ n ≤ c := by
  have hnI : (n : Int) ≤ 1048576 := by omega
  have HD := hid (diffsOf_any l A (n + 1) cap w hn hr hl (by omega))
  have HDL := hid (Dlt.difs_lt 0 l)
  have hdl := Dlt.difs_len 0 l
  have HZ := hid (show Dlt.zs l = ((Dlt.difs 0 l).drop 1).map Dlt.zig by
    rw [Dlt.difs_tail]; cases l <;> rfl)
  obtain ⟨D, hD⟩ : ∃ D, D = Dlt.difs 0 l := ⟨_, rfl⟩
  rw [← hD] at HD HDL hdl HZ
  rw [hn] at hdl
  have HDN := hid hdl
  have HNL := hid hnl
  clear hn hr hl hnl hD hdl
  go_enter Try.func81, Try.ntmps81
  go_wp2_with fail
  refine Calls.mono HD.out ?_
  rintro e w1 ⟨B, c, rfl, hrd, hx⟩
  have HRD := hid hrd
  have X1 := hid hx
  clear hrd hx
  go_wp2
  go_loopw [4, 5] (fun v c wr => ∃ i : Nat, i ≤ n ∧ c = .int .i64 ((i : Int) + 1) ∧ Hid (wr.ownsRow w1.heap.size 33 1 v i (u64s (((D.drop 1).take i).map Dlt.zig))) ∧ Hid (Ext w1 wr)) (fun _ c _ => n + 1 - (intOf c).toNat)
  case atStart => exact ⟨0, Nat.zero_le _, rfl, hid (World.ownsRow_nil _ _ _ _), hid (ext_refl _)⟩
  case round =>
    obtain ⟨i, hi, rfl, HO, HX⟩ := hrel
    obtain ⟨A3, c3, rfl, hrd3, _, hc3, _⟩ := Rd.owned HO.out
    by_cases hlt : i < n
    · have hltI : (i : Int) < (n : Int) := by omega
      obtain ⟨x, hx⟩ : ∃ x, D[i + 1]? = some x := ⟨_, List.getElem?_eq_getElem (by rw [HDN.out]; omega)⟩
      have hxl := HDL.out x (List.mem_of_getElem? hx)
      have hxI : (x : Int) ≤ 18446744073709551615 := by omega
      obtain ⟨b1, o1, e1, l1, c1⟩ := (HRD.out.keep HX.out).num0 (by rw [HDN.out]; omega)
      subst e1
      have d0 := c1 (i + 1) x hx
      have CZ := hid (fun wx => zigOf_any x wx hxl)
      have hzl := Dlt.zig_lt x hxl
      have HS := hid (show ((D.drop 1).take (i + 1)).map Dlt.zig = ((D.drop 1).take i).map Dlt.zig ++ [Dlt.zig x] by
        rw [take_succ_snoc (show (D.drop 1)[i]? = some x by rw [List.getElem?_drop, Nat.add_comm]; exact hx)]; simp)
      have hi1 : ((i + 1 : Nat) : Int) = (i : Int) + 1 := by omega
      have HI := hid (show i ≤ 1048576 by have := HNL.out; omega)
      generalize Dlt.zig x = z at *
      have hzI : (z : Int) ≤ 18446744073709551615 := by omega
      generalize ((D.drop 1).take i).map Dlt.zig = L at *
      clear c1 hx hxl hrd3 hc3 hzl
      go_wp2_with (first
        | (go_at_call 45; refine Calls.mono (CZ.out _) ?_; rintro e _ ⟨rfl, rfl⟩)
        | (at_builtin; refine wpList_app rfl (.tmp 14) (.tmp 20) rowU64 rfl _ i _ rfl (own_ext HO.out ((ext_refl _).new _)) _ 1 (u64s [z]) rfl (Src.rd Try.underlying22 _ 1 1 _ rfl (rd_lit rfl rfl) (u64s_one _) (fun h => by cases h)) (by have := HI.out; unfold maxLen; omega) (by have := HI.out; omega) (by have := HX.out.size; simp; omega) ?_; intro v' w5 hown5 hgrow hat hbel; have HO5 := hid hown5; have HX5 := hid (Below.trans (Ext.new HX.out _) hbel); obtain ⟨A5, c5, rfl, _⟩ := Rd.owned HO5.out; clear hown5 hgrow hat hbel))
      go_roundw
      case rel => exact ⟨i + 1, by omega, by go_num, hid (by rw [HS.out, u64s_app]; exact HO5.out), HX5⟩
      case measure => simp [intOf] <;> omega
    · obtain rfl : i = n := by omega
      have htk : (D.drop 1).take i = D.drop 1 := List.take_of_length_le (by rw [List.length_drop, HDN.out]; omega)
      rw [htk, ← HZ.out] at hrd3
      have HR3 := hid hrd3
      have HC3 := hid hc3
      clear htk hrd3 hc3 hlt
      go_wp2
      go_returns
      exact ⟨_, _, rfl, HR3.out, X1.out.then HX.out, HC3.out⟩
set_option maxRecDepth 100000 in
set_option maxHeartbeats 1600000 in
theorem deltaBytes_any (l : List Nat) (A : Option Addr) (n cap : Nat) (w : World) (hn : l.length = n) (hr : Rd w A (u64s l)) (hl : ∀ x ∈ l, x < 18446744073709551616) (hnl : n ≤ 1048576) :
    Calls Try.prog 50 #[.slice A n cap] w fun e w' => e = .returned (.string ⟨(Dlt.bys l).toArray⟩) ∧ Ext w w' := by
  have hnI : (n : Int) ≤ 1048576 := by omega
  cases l with
  | nil =>
    obtain rfl : n = 0 := by rw [← hn]; rfl
    rw [Dlt.bys_nil]
    clear hr hl hn
    go_enter Try.func50, Try.ntmps50
    go_wp2
    go_returns
    exact ⟨rfl, ext_refl _⟩
  | cons x r =>
    obtain ⟨m, rfl⟩ : ∃ m, n = m + 1 := ⟨r.length, by rw [← hn]; rfl⟩
    have HZO := hid (zigsOf_any (x :: r) A m cap w hn hr hl (by omega))
    have hz : (Dlt.zs (x :: r)).length = m := by rw [Dlt.zs_len, hn]; rfl
    have hzl := Dlt.zs_lt (x :: r)
    rw [Dlt.bys_cons]
    obtain ⟨Z, hZ⟩ : ∃ Z, Z = Dlt.zs (x :: r) := ⟨_, rfl⟩
    rw [← hZ] at hz hzl HZO ⊢
    have hw64 := Bits.width_le64 Z hzl
    have hzw := (Bits.width_le_iff Z (Bits.width Z) hzl hw64).1 (Nat.le_refl _)
    have HWID := hid (fun (B : Option Addr) (c : Nat) (wx : World) (h : Rd wx B (u64s Z)) => widthOf_any Z B m c wx hz h hzl (by omega))
    have HHB := hid (fun (B : Option Addr) (c : Nat) (wx : World) (h : Rd wx B (u64s Z)) (hc : m ≤ c) => hybridBytes_any Z B m c (Bits.width Z) wx hz h hc (by omega) hzw hw64)
    have HV := hid (fun wx => varyBytes_any x wx (hl x (by simp)))
    have hrl := Hyb.raw_len_big Z (Bits.width Z) hw64
    have HOB := hid (fun wx => oneByte_any (Bits.width Z : Nat) wx (by omega) (by omega))
    rw [Int.toNat_natCast] at HOB
    generalize Bits.width Z = wb at *
    obtain ⟨b1, o1, rfl, l1, c1⟩ := hr.num0 (by simp)
    have d0 := c1 0 x rfl
    rw [Nat.add_zero] at d0
    obtain ⟨X1b, hX1b⟩ : ∃ S : ByteArray, S = ⟨(Vary.wr x).toArray⟩ := ⟨_, rfl⟩
    obtain ⟨X2b, hX2b⟩ : ∃ S : ByteArray, S = ⟨#[UInt8.ofNat wb]⟩ := ⟨_, rfl⟩
    obtain ⟨X3b, hX3b⟩ : ∃ S : ByteArray, S = ⟨(Hyb.raw Z wb).toArray⟩ := ⟨_, rfl⟩
    have hz1 : X1b.size ≤ 9 := by rw [hX1b, str_size, Vary.wr_len]; have := Vary.beh_le8 x; omega
    have hz2 : X2b.size = 1 := by rw [hX2b]; rfl
    have hz3 : (X3b.size : Int) ≤ 100000000 := by rw [hX3b, str_size]; omega
    have HVV := hid (show X1b ++ X2b ++ X3b = ⟨(Vary.wr x ++ [UInt8.ofNat wb] ++ Hyb.raw Z wb).toArray⟩ by rw [hX1b, hX2b, hX3b, show (⟨#[UInt8.ofNat wb]⟩ : ByteArray) = ⟨[UInt8.ofNat wb].toArray⟩ from rfl, str_app, str_app])
    rw [← hX1b] at HV
    rw [← hX2b] at HOB
    rw [← hX3b] at HHB
    have hwI : (wb : Int) ≤ 64 := by omega
    have hxI : (x : Int) ≤ 18446744073709551615 := by have := hl x (by simp); omega
    clear hr hl hn hz hzl hZ hzw hw64 hrl c1 hX1b hX2b hX3b hnl
    have hmz1 : (((m + 1 : Nat) : Int) == 0) = false := by rw [beq_eq_false_iff_ne]; omega
    have hmz2 : (((m : Int) + 1) == 0) = false := by rw [beq_eq_false_iff_ne]; omega
    have hmI : (m : Int) ≤ 1048575 := by omega
    clear hnI
    go_enter Try.func50, Try.ntmps50
    go_wp2_with fail
    refine Calls.mono HZO.out ?_
    rintro e w1 ⟨B, c, rfl, hrd, hx, hcc⟩
    have HRD := hid hrd
    have X1 := hid hx
    have HCC := hid hcc
    have d0 := ext_cell hx d0
    clear hrd hx hcc
    go_wp2_with fail
    refine Calls.mono (HWID.out _ _ _ HRD.out) ?_
    rintro e _ ⟨rfl, rfl⟩
    go_wp2_with fail
    refine Calls.mono (HV.out _) ?_
    rintro e w2 ⟨rfl, hx⟩
    replace X1 := hid (X1.out.then hx)
    replace HRD := hid (HRD.out.keep hx)
    clear hx
    go_wp2_with fail
    refine Calls.mono (HOB.out _) ?_
    rintro e w3 ⟨rfl, hx⟩
    replace X1 := hid (X1.out.then hx)
    replace HRD := hid (HRD.out.keep hx)
    clear hx
    go_wp2_with fail
    refine Calls.mono (HHB.out _ _ _ HRD.out HCC.out) ?_
    rintro e w4 ⟨rfl, hx⟩
    replace X1 := hid (X1.out.then hx)
    clear hx
    go_wp2
    go_returns
    exact ⟨by rw [← HVV.out]; rfl, X1.out⟩
set_option maxRecDepth 100000 in
set_option maxHeartbeats 1600000 in
theorem deltaOf_any (s : ByteArray) (many : Int) (w : World) (hs : s.size ≤ 281474976710656) :
    Calls Try.prog 51 #[.string s, .int .i64 many] w (NumsOut (Dlt.rds s.data.toList many).1 (Dlt.rds s.data.toList many).2 w) := by
  have hss : s.data.toList.length = s.size := Array.length_toList
  by_cases hneg : many < 0
  · rw [Dlt.rds_neg hneg]
    go_enter Try.func51, Try.ntmps51
    go_wp2
    go_returns
    exact ⟨none, 0, rfl, fun h => by simp [u64s] at h, ext_refl _⟩
  by_cases hmany : 64 < many
  · rw [Dlt.rds_many hmany]
    go_enter Try.func51, Try.ntmps51
    go_wp2
    go_returns
    exact ⟨none, 0, rfl, fun h => by simp [u64s] at h, ext_refl _⟩
  obtain ⟨m, rfl⟩ : ∃ m : Nat, many = (m : Int) := ⟨many.toNat, by omega⟩
  have hmI : (m : Int) ≤ 64 := by omega
  have hsI : (s.size : Int) ≤ 281474976710656 := by omega
  obtain ⟨L, hL⟩ : ∃ L, L = s.data.toList := ⟨_, rfl⟩
  rcases Nat.eq_zero_or_pos m with h0 | h0
  · subst h0
    by_cases hn : s.data.toList = []
    · rw [hn, show ((0 : Nat) : Int) = 0 from rfl, Dlt.rds_zero]
      have hz : s.size = 0 := by rw [← hss, hn]; rfl
      have hzI : (s.size : Int) = 0 := by omega
      clear hn hss hL hz
      go_enter Try.func51, Try.ntmps51
      go_wp2
      go_returns
      exact ⟨none, 0, rfl, fun h => by simp [u64s] at h, ext_refl _⟩
    · rw [show ((0 : Nat) : Int) = 0 from rfl, Dlt.rds_form hn]
      have hzI : 0 < (s.size : Int) := by have := List.length_pos_iff.2 hn; omega
      clear hn hss hL
      go_enter Try.func51, Try.ntmps51
      go_wp2
      go_returns
      exact ⟨none, 0, rfl, fun h => by simp [u64s] at h, ext_refl _⟩
  have hm1 : (1 : Int) ≤ (m : Int) := by omega
  have hmz : ((m : Int) == 0) = false := by rw [beq_eq_false_iff_ne]; omega
  have HVO := hid (varyOf_any s w hs)
  obtain ⟨⟨n, k, e0⟩, hrd⟩ : ∃ p, Vary.rd s.data.toList = p := ⟨_, rfl⟩
  rcases Vary.rd_cases s.data.toList with hc | hc | ⟨n', k', hc, hk8, hkl, hn64, _⟩
  · rw [hc] at hrd HVO
    rw [Dlt.rds_vary (by omega) (by omega) hc (by decide)]
    clear hrd hc hss hL hs h0 hneg hmany
    go_enter Try.func51, Try.ntmps51
    go_wp2_with fail
    refine Calls.mono HVO.out ?_
    rintro e w1 ⟨rfl, hx⟩
    have X1 := hid hx
    clear hx
    go_wp2
    go_returns
    exact ⟨none, 0, rfl, fun h => by simp [u64s] at h, X1.out⟩
  · rw [hc] at hrd HVO
    rw [Dlt.rds_vary (by omega) (by omega) hc (by decide)]
    clear hrd hc hss hL hs h0 hneg hmany
    go_enter Try.func51, Try.ntmps51
    go_wp2_with fail
    refine Calls.mono HVO.out ?_
    rintro e w1 ⟨rfl, hx⟩
    have X1 := hid hx
    clear hx
    go_wp2
    go_returns
    exact ⟨none, 0, rfl, fun h => by simp [u64s] at h, X1.out⟩
  rw [hc] at HVO
  clear hrd n k e0
  obtain ⟨k, hk⟩ : ∃ k, k = k' + 1 := ⟨_, rfl⟩
  rw [← hk] at HVO hc hkl
  generalize n' = n at *
  have hnI : (n : Int) ≤ 18446744073709551615 := by omega
  have hkI : (k : Int) ≤ 9 := by omega
  have hkI2 : (k : Int) ≤ (s.size : Int) := by omega
  have HRR := hid (@Dlt.rds_rest s.data.toList (m : Int) n k (by omega) (by omega) hc)
  have HRO := hid (@Dlt.rds_ok s.data.toList (m : Int) n k (by omega) (by omega) hc)
  cases hd : s.data.toList.drop k with
  | nil =>
    have hsk : s.size = k := by have := congrArg List.length hd; rw [List.length_drop, hss] at this; simp at this; omega
    have HR := hid (show Dlt.rds s.data.toList (m : Int) = ([], 5) by have h := HRR.out; rw [hd, Dlt.rst_nil] at h; exact h (by decide))
    rw [HR.out]
    have hskI : (s.size : Int) = (k : Int) := by omega
    have hdec : ((k : Int) == (k : Int)) = true := by simp
    clear HRR HRO hd hL hs h0 hneg hmany hk hc hkl hn64 hk8 hkI2 hss hsk
    go_enter Try.func51, Try.ntmps51
    go_wp2_with fail
    refine Calls.mono HVO.out ?_
    rintro e w1 ⟨rfl, hx⟩
    have X1 := hid hx
    clear hx
    go_wp2
    go_returns
    exact ⟨none, 0, rfl, fun h => by simp [u64s] at h, X1.out⟩
  | cons c t =>
    have hsk : k < s.size := by have := congrArg List.length hd; rw [List.length_drop, hss, List.length_cons] at this; omega
    have hskI : (k : Int) < (s.size : Int) := by omega
    have hske : ((s.size : Int) == (k : Int)) = false := by rw [beq_eq_false_iff_ne]; omega
    have hgk : s.data.toList[k]? = some c := by have := congrArg (·[0]?) hd; simpa using this
    have hI := fun wx : World => run_ix (P := Try.prog) (w := wx) Try.underlying9 s .i64 k c hgk
    have hT := fun wx : World => run_from (P := Try.prog) (w := wx) Try.underlying9 s .i64 (k + 1) (by omega)
    have hk1 : ((k + 1 : Nat) : Int) = (k : Int) + 1 := by omega
    have hdt : s.data.toList.drop (k + 1) = t := by rw [← List.drop_drop, hd]; rfl
    rw [hk1, hdt] at hT
    have htl : t.length ≤ 281474976710656 := by have := congrArg List.length hdt; rw [List.length_drop, hss] at this; omega
    obtain ⟨XT, hXT⟩ : ∃ S : ByteArray, S = ⟨t.toArray⟩ := ⟨_, rfl⟩
    rw [← hXT] at hT
    have hXs : XT.size = t.length := by rw [hXT, str_size]
    have hcI : (c.toNat : Int) ≤ 255 := by have := c.toNat_lt; omega
    obtain ⟨p, rfl⟩ : ∃ p, m = p + 1 := ⟨m - 1, by omega⟩
    have hmp : ((p + 1 : Nat) : Int) - 1 = (p : Int) := by omega
    have HHO := hid (fun wx => hybridOf_any XT (p : Int) (c.toNat : Int) wx (by omega))
    rw [show XT.data.toList = t by rw [hXT]] at HHO
    have hbd := Hyb.rdl_bd t (p : Int) (c.toNat : Int)
    have hln := Hyb.rdl_len2 t (p : Int) (c.toNat : Int)
    rw [Int.toNat_natCast] at hln
    have hzl := Hyb.rdl_lt t (p : Int) (c.toNat : Int)
    have HRB := hid (@Dlt.rst_bad c t (p : Int))
    have HRF := hid (@Dlt.rst_form c t (p : Int))
    have HRK := hid (@Dlt.rst_ok c t (p : Int))
    rw [hd, hmp] at HRR HRO
    obtain ⟨⟨Z, E⟩, hZE⟩ : ∃ q, Hyb.rdl t (p : Int) (c.toNat : Int) = q := ⟨_, rfl⟩
    rw [hZE] at HHO hbd hln hzl HRB HRF HRK
    simp only at HHO hbd hln hzl HRB HRF HRK
    have hEI : (E : Int) ≤ 8 := by omega
    have hZI : (Z.length : Int) ≤ 64 := by omega
    generalize c.toNat = wb at *
    by_cases hE : E = 0
    · subst hE
      have HWD := hid (fun (B : Option Addr) (cp : Nat) (wx : World) (h : Rd wx B (u64s Z)) => widthOf_any Z B Z.length cp wx rfl h hzl (by omega))
      have hw64 := Bits.width_le64 Z hzl
      have hw64I : (Bits.width Z : Int) ≤ 64 := by omega
      by_cases hwd : Bits.width Z = wb
      · have HR := hid (show Dlt.rds s.data.toList ((p + 1 : Nat) : Int) = (Dlt.sums 0 (n :: Z.map Dlt.zag), 0) by
          have h := HRK.out rfl hwd
          rw [h] at HRO
          exact HRO.out rfl)
        rw [HR.out]
        rw [hwd] at HWD
        have HZL := hid hzl
        have HLN := hid hln
        have HP := hid (show p ≤ 63 by omega)
        have HN64 := hid hn64
        have hwx : ((wb : Int) != (wb : Int)) = false := by simp
        have hwx2 : ((wb : Int) == (wb : Int)) = true := by simp
        clear HRR HRO HRB HRF HRK hd hL hs h0 hneg hmany hk hc hkl hn64 hk8 hkI2 hss hsk hgk hdt htl hXT hXs hZE hbd hln hzl hw64 hwd
        go_enter Try.func51, Try.ntmps51
        go_wp2_with fail
        refine Calls.mono HVO.out ?_
        rintro e w1 ⟨rfl, hx⟩
        have X1 := hid hx
        clear hx
        go_wp2_with fail
        refine Calls.mono (HHO.out _) ?_
        rintro e w2 ⟨B, cb, rfl, hrd, hx⟩
        have X2 := hid (X1.out.then hx)
        have HRD := hid hrd
        clear hx hrd
        go_wp2_with fail
        refine Calls.mono (HWD.out _ _ _ HRD.out) ?_
        rintro e _ ⟨rfl, rfl⟩
        go_wp2
        have had : Dlt.ad 0 n = n := Dlt.ad_zero n HN64.out
        go_loopw [6, 11, 12] (fun a v q wr => ∃ (i y : Nat), i ≤ Z.length ∧ q = .int .i64 i ∧ a = .int .u64 y ∧ y < 18446744073709551616 ∧ Hid (Dlt.tot 0 (n :: (Z.take i).map Dlt.zag) = y) ∧ Hid (wr.ownsRow w2.heap.size 33 1 v (i + 1) (u64s (Dlt.sums 0 (n :: (Z.take i).map Dlt.zag)))) ∧ Hid (Ext w2 wr)) (fun _ _ q _ => Z.length - (intOf q).toNat)
        case atStart => exact ⟨0, n, Nat.zero_le _, rfl, rfl, HN64.out, hid (by show Dlt.ad 0 n = n; rw [had]), hid (by have h := own_new (w := w2) (e := 33) (size := 1) (base := w2.heap.size) (n := 1) (C := #[.int .u64 (n : Int)]) rfl rfl (Nat.le_refl _) (by decide); rw [show Dlt.sums 0 (n :: (Z.take 0).map Dlt.zag) = [n] by show [Dlt.ad 0 n] = [n]; rw [had]]; exact h), hid ((ext_refl _).new _)⟩
        case round =>
          obtain ⟨i, y, hi, rfl, rfl, hy, HY, HO, HX⟩ := hrel
          obtain ⟨A3, c3, rfl, hrd3, _, hc3, _⟩ := Rd.owned HO.out
          by_cases hlt : i < Z.length
          · have hltI : (i : Int) < (Z.length : Int) := by omega
            obtain ⟨z, hz⟩ : ∃ z, Z[i]? = some z := ⟨_, List.getElem?_eq_getElem hlt⟩
            have hzl := HZL.out z (List.mem_of_getElem? hz)
            have hzI : (z : Int) ≤ 18446744073709551615 := by omega
            obtain ⟨b1, o1, e1, l1, c1⟩ := (HRD.out.keep HX.out).num0 (by omega)
            subst e1
            have d0 := c1 i z hz
            have CZ := hid (fun wx => zagOf_any z wx hzl)
            have hgl := Dlt.zag_lt z hzl
            have HS := hid (show Dlt.sums 0 (n :: (Z.take (i + 1)).map Dlt.zag) = Dlt.sums 0 (n :: (Z.take i).map Dlt.zag) ++ [Dlt.ad y (Dlt.zag z)] by
              rw [take_succ_snoc hz, List.map_append, ← List.cons_append]
              have := Dlt.sums_snoc 0 (n :: (Z.take i).map Dlt.zag) (Dlt.zag z)
              rw [HY.out] at this; exact this)
            have HTOT := hid (show Dlt.tot 0 (n :: (Z.take (i + 1)).map Dlt.zag) = Dlt.ad y (Dlt.zag z) by rw [take_succ_snoc hz, List.map_append, ← List.cons_append, List.map_singleton, Dlt.tot_snoc, HY.out])
            generalize Dlt.zag z = g at *
            have had2 : ((y : Int) + (g : Int)) % 18446744073709551616 = (Dlt.ad y g : Nat) := by unfold Dlt.ad; omega
            have hadl : Dlt.ad y g < 18446744073709551616 := by unfold Dlt.ad; omega
            have hwr : IntKind.u64.wrap ((y : Int) + (g : Int)) = (Dlt.ad y g : Nat) := by rw [IntKind.wrap_u64]; exact had2
            generalize Dlt.ad y g = v at *
            have hvI : (v : Int) ≤ 18446744073709551615 := by omega
            have hgI : (g : Int) ≤ 18446744073709551615 := by omega
            have hyI : (y : Int) ≤ 18446744073709551615 := by omega
            have HVL := hid hadl
            have HLS := HTOT
            have HI := hid (show i + 1 ≤ 64 by have := HLN.out; have := HP.out; omega)
            generalize Dlt.sums 0 (n :: (Z.take i).map Dlt.zag) = L2 at *
            clear c1 hz hzl hrd3 hc3 hgl had2 hadl hy HY
            go_wp2_with (first
              | (go_at_call 47; refine Calls.mono (CZ.out _) ?_; rintro e _ ⟨rfl, rfl⟩)
              | (at_builtin; refine wpList_app rfl (.tmp 72) (.tmp 74) rowU64 rfl _ (i + 1) _ rfl (own_ext HO.out ((ext_refl _).new _)) _ 1 (u64s [v]) rfl (Src.rd Try.underlying22 _ 1 1 _ rfl (rd_lit rfl rfl) (u64s_one _) (fun h => by cases h)) (by have := HI.out; unfold maxLen; omega) (by have := HI.out; omega) (by have := HX.out.size; simp; omega) ?_; intro v' w5 hown5 hgrow hat hbel; have HO5 := hid hown5; have HX5 := hid (Below.trans (Ext.new HX.out _) hbel); obtain ⟨A5, c5, rfl, _⟩ := Rd.owned HO5.out; clear hown5 hgrow hat hbel))
            go_roundw
            case rel => exact ⟨i + 1, v, by omega, by go_num, rfl, HVL.out, HLS, hid (by rw [HS.out, u64s_app]; exact HO5.out), HX5⟩
            case measure => simp [intOf] <;> omega
          · obtain rfl : i = Z.length := by omega
            rw [List.take_of_length_le (Nat.le_refl _)] at hrd3
            have HR3 := hid hrd3
            have HSL := hid (show (Dlt.sums 0 (n :: Z.map Dlt.zag)).length = Z.length + 1 by rw [Dlt.sums_len, List.length_cons, List.length_map])
            clear hrd3 hc3 hlt
            go_wp2
            go_returns
            exact ⟨_, c3, by simp only [HSL.out]; rfl, HR3.out, X2.out.then HX.out⟩
      · have HR := hid (show Dlt.rds s.data.toList ((p + 1 : Nat) : Int) = ([], 1) by
          have h := HRF.out rfl hwd
          rw [h] at HRR
          exact HRR.out (by decide))
        rw [HR.out]
        have hwx : ((Bits.width Z : Int) != (wb : Int)) = true := by rw [bne_iff_ne]; omega
        have hwx2 : ((Bits.width Z : Int) == (wb : Int)) = false := by rw [beq_eq_false_iff_ne]; omega
        generalize Bits.width Z = wz at *
        clear HRR HRO HRB HRF HRK hd hL hs h0 hneg hmany hk hc hkl hn64 hk8 hkI2 hss hsk hgk hdt htl hXT hXs hZE hbd hln hzl hw64 hwd
        go_enter Try.func51, Try.ntmps51
        go_wp2_with fail
        refine Calls.mono HVO.out ?_
        rintro e w1 ⟨rfl, hx⟩
        have X1 := hid hx
        clear hx
        go_wp2_with fail
        refine Calls.mono (HHO.out _) ?_
        rintro e w2 ⟨B, cb, rfl, hrd, hx⟩
        have X2 := hid (X1.out.then hx)
        have HRD := hid hrd
        clear hx hrd
        go_wp2_with fail
        refine Calls.mono (HWD.out _ _ _ HRD.out) ?_
        rintro e _ ⟨rfl, rfl⟩
        go_wp2
        go_returns
        exact ⟨none, 0, rfl, fun h => by simp [u64s] at h, X2.out⟩
    · have HR := hid (show Dlt.rds s.data.toList ((p + 1 : Nat) : Int) = ([], E) by
        have h := HRB.out hE
        rw [h] at HRR
        exact HRR.out hE)
      rw [HR.out]
      have h5 : ((E : Int) != 0) = true := by rw [bne_iff_ne]; omega
      have h6 : ((E : Int) == 0) = false := by rw [beq_eq_false_iff_ne]; omega
      clear HRR HRO HRB HRF HRK hd hL hs h0 hneg hmany hk hc hkl hn64 hk8 hkI2 hss hsk hgk hdt htl hXT hXs hZE hbd hln hzl hE
      go_enter Try.func51, Try.ntmps51
      go_wp2_with fail
      refine Calls.mono HVO.out ?_
      rintro e w1 ⟨rfl, hx⟩
      have X1 := hid hx
      clear hx
      go_wp2_with fail
      refine Calls.mono (HHO.out _) ?_
      rintro e w2 ⟨B, cb, rfl, hrd, hx⟩
      have X2 := hid (X1.out.then hx)
      clear hx hrd
      go_wp2
      go_returns
      exact ⟨none, 0, rfl, fun h => by simp [u64s] at h, X2.out⟩
end Go.Proofs.Ytdblegdbfdhepaa
namespace Hy.Dlt
open Go
theorem rds_bd (s : List UInt8) (many : Int) : (rds s many).2 ≤ 8 := by
  unfold rds
  have h1 := Hyb.vrd_err s
  have h2 := rst_bd (s.drop (Vary.rd s).2.1) (many - 1) (fun c t _ => Hyb.rdl_bd t _ _)
  repeat' split
  all_goals first | (simp; done) | (show (Vary.rd s).2.2 ≤ 8; omega) | exact h2
end Hy.Dlt
namespace Go.Proofs.Ytdblegdbfdhepaa
open Go.RowKit Hy
set_option maxRecDepth 100000 in
set_option maxHeartbeats 1600000 in
theorem deltaWrites_walk (l : List Nat) (A : Option Addr) (n cap : Nat) (s : ByteArray) (many : Int) (w : World) (hn : l.length = n) (hr : Rd w A (u64s l)) (hcap : n ≤ cap) (hl : ∀ x ∈ l, x < 18446744073709551616) (hnl : n ≤ 1048576) (hs : s.size ≤ 281474976710656) :
    Calls Try.prog 18 #[.slice A n cap, .string s, .int .i64 many] w fun e w' => e = .returned (.bool true) ∧ Ext w w' := by
  have HW := hid (fun wx (hx : Ext w wx) => dWrite_any l A n cap wx hn (hr.keep hx) hcap hl (by omega))
  have HB := hid (fun wx (hx : Ext w wx) => deltaBytes_any l A n cap wx hn (hr.keep hx) hl hnl)
  have HR := hid (fun wx => dRead_any s many wx hs)
  have HO := hid (fun wx => deltaOf_any s many wx hs)
  have hE := Dlt.rds_bd s.data.toList many
  have HL := hid (Dlt.rds_len s.data.toList many)
  obtain ⟨⟨R, E⟩, hRE⟩ : ∃ p, Dlt.rds s.data.toList many = p := ⟨_, rfl⟩
  rw [hRE] at HR HO hE HL
  simp only at HR HO hE HL
  have hEI : (E : Int) ≤ 8 := by omega
  unfold Dlt.wrt at HW
  have hnI : (n : Int) ≤ 1048576 := by omega
  by_cases h64 : 64 < n
  · rw [if_pos (by omega)] at HW
    have h64I : 64 < (n : Int) := by omega
    obtain ⟨V, hV⟩ : ∃ S : ByteArray, S = ⟨(Dlt.bys l).toArray⟩ := ⟨_, rfl⟩
    rw [← hV] at HB
    clear hn hr hcap hl hnl hs hE hRE h64 hV
    go_enter Try.func18, Try.ntmps18
    go_wp2_with fail
    refine Calls.mono (HW.out _ (ext_refl _)) ?_
    rintro e w1 ⟨rfl, hx⟩
    have Xp := hid hx
    clear hx 
    go_wp2_with fail
    refine Calls.mono (HR.out _) ?_
    rintro e w2 ⟨B1, c1, rfl, h1, hx, _⟩
    replace Xp := hid (Xp.out.then hx)
    have R1 := hid h1
    clear hx h1
    go_wp2_with fail
    refine Calls.mono (HB.out _ Xp.out) ?_
    rintro e w3 ⟨rfl, hx⟩
    replace Xp := hid (Xp.out.then hx)
    replace R1 := hid (R1.out.keep hx)
    clear hx 
    go_wp2_with fail
    refine Calls.mono (HO.out _) ?_
    rintro e w4 ⟨B2, c2, rfl, h1, hx⟩
    replace Xp := hid (Xp.out.then hx)
    replace R1 := hid (R1.out.keep hx)
    have R2 := hid h1
    clear hx h1
    go_wp2_with fail
    refine Calls.mono (deltaBegun_any _) ?_
    rintro e w5 ⟨rfl, hx⟩
    replace Xp := hid (Xp.out.then hx)
    replace R1 := hid (R1.out.keep hx)
    replace R2 := hid (R2.out.keep hx)
    clear hx 
    go_wp2_with fail
    refine Calls.mono (sameNums_self R _ _ R.length _ _ _ rfl R1.out R2.out (by have := HL.out; omega)) ?_
    rintro e w6 ⟨rfl, hx⟩
    replace Xp := hid (Xp.out.then hx)
    replace R1 := hid (R1.out.keep hx)
    replace R2 := hid (R2.out.keep hx)
    clear hx 
    go_wp2
    go_returns
    exact ⟨rfl, Xp.out⟩
  · rw [if_neg (by omega)] at HW
    have h64I : ¬ 64 < (n : Int) := by omega
    obtain ⟨V, hV⟩ : ∃ S : ByteArray, S = ⟨(Dlt.bys l).toArray⟩ := ⟨_, rfl⟩
    simp only [← hV] at HB HW
    clear hn hr hcap hl hnl hs hE hRE h64 hV
    go_enter Try.func18, Try.ntmps18
    go_wp2_with fail
    refine Calls.mono (HW.out _ (ext_refl _)) ?_
    rintro e w1 ⟨rfl, hx⟩
    have Xp := hid hx
    clear hx 
    go_wp2_with fail
    refine Calls.mono (HR.out _) ?_
    rintro e w2 ⟨B1, c1, rfl, h1, hx, _⟩
    replace Xp := hid (Xp.out.then hx)
    have R1 := hid h1
    clear hx h1
    go_wp2_with fail
    refine Calls.mono (HB.out _ Xp.out) ?_
    rintro e w3 ⟨rfl, hx⟩
    replace Xp := hid (Xp.out.then hx)
    replace R1 := hid (R1.out.keep hx)
    clear hx 
    go_wp2_with fail
    refine Calls.mono (HO.out _) ?_
    rintro e w4 ⟨B2, c2, rfl, h1, hx⟩
    replace Xp := hid (Xp.out.then hx)
    replace R1 := hid (R1.out.keep hx)
    have R2 := hid h1
    clear hx h1
    go_wp2_with fail
    refine Calls.mono (deltaBegun_any _) ?_
    rintro e w5 ⟨rfl, hx⟩
    replace Xp := hid (Xp.out.then hx)
    replace R1 := hid (R1.out.keep hx)
    replace R2 := hid (R2.out.keep hx)
    clear hx 
    go_wp2_with fail
    refine Calls.mono (sameNums_self R _ _ R.length _ _ _ rfl R1.out R2.out (by have := HL.out; omega)) ?_
    rintro e w6 ⟨rfl, hx⟩
    replace Xp := hid (Xp.out.then hx)
    replace R1 := hid (R1.out.keep hx)
    replace R2 := hid (R2.out.keep hx)
    clear hx 
    go_wp2
    go_returns
    exact ⟨rfl, Xp.out⟩
end Go.Proofs.Ytdblegdbfdhepaa
