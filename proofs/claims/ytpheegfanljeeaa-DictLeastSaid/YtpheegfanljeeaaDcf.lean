/- Dict: the document's Below, TextsOf, BookOf: walks. -/
import Derived.Test.YtpheegfanljeeaaDce
import Derived.Test.YtpheegfanljeeaaOwf
namespace Hy.Dct
open Go
/-- below a text, or the same too -/
def low (same : Bool) (s x : T) : Bool := decide (x < s) || (same && decide (x = s))
theorem low_false (b : List T) (s : T) : b.countP (low false s) = plc b s := by
  rw [plc_eq]; congr 1; funext x; simp [low]
theorem low_true (b : List T) (s : T) : b.countP (low true s) = ple b s := by
  unfold ple; congr 1; funext x
  unfold low
  rcases tot3 x s with h | h | h
  · simp [h, lt_le h]
  · subst h; simp
  · have h1 : x ≠ s := fun e => by subst e; exact lt_irr _ h
    have h2 : ¬ x ≤ s := List.not_le.2 h
    simp [lt_asy h, h1, h2]
/-- has a place come up, behind so many? -/
def come (cd : List Nat) (k i : Nat) : Bool := (cd.drop i).any (· == k)
theorem come_step (cd : List Nat) (k i : Nat) (hi : i < cd.length) : come cd k i = (decide (cd[i] = k) || come cd k (i + 1)) := by
  unfold come
  rw [List.drop_eq_getElem_cons hi, List.any_cons]
  congr 1
theorem come_end (cd : List Nat) (k i : Nat) (hi : cd.length ≤ i) : come cd k i = false := by unfold come; rw [List.drop_eq_nil_of_le hi]; rfl
theorem come_all (l : List T) (k : Nat) (hk : k < (bk l).length) : come (cds l) k 0 = true := by
  unfold come
  rw [List.drop_zero, List.any_eq_true]
  obtain ⟨i, hi, e⟩ := cds_has l k hk
  exact ⟨k, List.mem_map.2 ⟨l[i], List.getElem_mem hi, e⟩, by simp⟩
end Hy.Dct
namespace Go.Proofs.Ytpheegfanljeeaa
open Go.RowKit Hy
set_option maxRecDepth 100000 in
set_option maxHeartbeats 1600000 in
theorem below_any (b : List (List UInt8)) (A : Option Addr) (n cap : Nat) (t : List UInt8) (s : ByteArray) (hs : s = ⟨t.toArray⟩) (same : Bool) (w : World) (hn : b.length = n) (hr : Rd w A (txs b)) (hnl : n ≤ 140737488355328) (hl : ∀ x ∈ b, x.length ≤ 140737488355328) (ht : t.length ≤ 140737488355328) :
    Calls Try.prog 38 #[.slice A n cap, .string s, .bool same] w fun e w' => e = .returned (.int .i64 (b.countP (Dct.low same t) : Nat)) ∧ Ext w w' := by
  have hnI : (n : Int) ≤ 140737488355328 := by omega
  have HN := hid hn
  have HR := hid hr
  have HL := hid hl
  have HT := hid ht
  have HS := hid hs
  have hsL : s.toList = t := by rw [hs, ByteArray.toList_mk]
  have HSL := hid hsL
  have hsd : s.data.toList = t := by rw [hs]
  have HSD := hid hsd
  clear hn hr hl ht hnl hs hsL hsd
  go_enter Try.func38, Try.ntmps38
  go_wp2
  go_loopw [7, 8] (fun c ix wr => ∃ i : Nat, i ≤ n ∧ ix = .int .i64 i ∧ c = .int .i64 ((b.take i).countP (Dct.low same t) : Nat) ∧ Hid (Ext w wr)) (fun _ ix _ => n - (intOf ix).toNat)
  case atStart => exact ⟨0, Nat.zero_le _, rfl, rfl, ext_refl _⟩
  case round =>
    obtain ⟨i, hi, rfl, rfl, HX⟩ := hrel
    have hci : (b.take i).countP (Dct.low same t) ≤ (b.take i).length := List.countP_le_length
    rw [List.length_take] at hci
    by_cases hlt : i < n
    · have hltI : (i : Int) < (n : Int) := by omega
      have hil : i < b.length := by rw [HN.out]; exact hlt
      obtain ⟨b1, o1, e1, l1, c1⟩ := (HR.out.keep HX.out).texts i hil
      cases e1
      have d0 := c1 i hil
      have hlen := HL.out _ (List.getElem_mem hil)
      have hst : (b.take (i + 1)).countP (Dct.low same t) = (b.take i).countP (Dct.low same t) + if Dct.low same t b[i] = true then 1 else 0 := by
        rw [List.take_succ_eq_append_getElem hil, List.countP_append, List.countP_singleton]
      generalize (b.take i).countP (Dct.low same t) = c at *
      have hcI : (c : Int) ≤ 140737488355328 := by omega
      obtain ⟨S0, hS0⟩ : ∃ S : ByteArray, S = ⟨b[i].toArray⟩ := ⟨_, rfl⟩
      have e0 : S0.toList = b[i] := by rw [hS0, ByteArray.toList_mk]
      rw [← hS0] at d0
      by_cases hl2 : b[i] < t
      · have CT := hid (fun wx => txLess_any b[i] t S0 s hS0 HS.out wx hlen HT.out true (decide_eq_true hl2))
        have hlo : Dct.low same t b[i] = true := by unfold Dct.low; simp [hl2]
        rw [if_pos hlo] at hst
        have HD := hid hst
        clear c1 hst hlo hl2 hS0 e0 hlen hil hlt hci
        go_wp2_with fail
        refine Calls.mono (CT.out _) ?_
        rintro e w5 ⟨rfl, hx⟩
        have X5 := hid (HX.out.then hx)
        clear hx
        go_wp2
        go_roundw
        case rel => exact ⟨i + 1, by omega, by go_num, by rw [HD.out]; go_num, X5⟩
        case measure => simp [intOf] <;> omega
      · have CT := hid (fun wx => txLess_any b[i] t S0 s hS0 HS.out wx hlen HT.out false (decide_eq_false hl2))
        cases same with
        | false =>
          have hlo : Dct.low false t b[i] = false := by unfold Dct.low; simp [hl2]
          rw [if_neg (by rw [hlo]; decide)] at hst
          have HD := hid hst
          clear c1 hst hlo hl2 hS0 e0 hlen hil hlt hci
          go_wp2_with fail
          refine Calls.mono (CT.out _) ?_
          rintro e w5 ⟨rfl, hx⟩
          have X5 := hid (HX.out.then hx)
          clear hx
          go_wp2
          go_roundw
          case rel => exact ⟨i + 1, by omega, by go_num, by rw [HD.out]; rfl, X5⟩
          case measure => simp [intOf] <;> omega
        | true =>
          by_cases he : b[i] = t
          · have hlo : Dct.low true t b[i] = true := by unfold Dct.low; simp [he]
            rw [if_pos hlo] at hst
            have HD := hid hst
            have HE1 := hid (show (S0.toList == s.toList) = true by rw [e0, he, HSL.out]; simp)
            clear hst hlo hl2 hS0 e0 hlen hlt hci he c1 hil
            go_wp2_with fail
            refine Calls.mono (CT.out _) ?_
            rintro e w5 ⟨rfl, hx⟩
            have X5 := hid (HX.out.then hx)
            have d0 := ext_cell hx d0
            clear hx
            have he1 := HE1.out
            go_wp2
            go_roundw
            case rel => exact ⟨i + 1, by omega, by go_num, by rw [HD.out]; go_num, X5⟩
            case measure => simp [intOf] <;> omega
          · have hlo : Dct.low true t b[i] = false := by unfold Dct.low; simp [hl2, he]
            rw [if_neg (by rw [hlo]; decide)] at hst
            have HD := hid hst
            have HE1 := hid (show (S0.toList == s.toList) = false by rw [e0, HSL.out, beq_eq_false_iff_ne]; exact he)
            clear hst hlo hl2 hS0 e0 hlen hlt hci he c1 hil
            go_wp2_with fail
            refine Calls.mono (CT.out _) ?_
            rintro e w5 ⟨rfl, hx⟩
            have X5 := hid (HX.out.then hx)
            have d0 := ext_cell hx d0
            clear hx
            have he1 := HE1.out
            go_wp2
            go_roundw
            case rel => exact ⟨i + 1, by omega, by go_num, by rw [HD.out]; rfl, X5⟩
            case measure => simp [intOf] <;> omega
    · obtain rfl : i = n := by omega
      have htk : b.take i = b := List.take_of_length_le (by rw [HN.out]; exact Nat.le_refl _)
      rw [htk]
      clear hlt htk hci
      go_wp2
      go_returns
      exact ⟨rfl, HX.out⟩
set_option maxRecDepth 100000 in
set_option maxHeartbeats 1600000 in
theorem textsOf_any (b : List (List UInt8)) (c : List Nat) (A B : Option Addr) (n m cap cap2 : Nat) (w : World) (hn : b.length = n) (hm : c.length = m) (hr : Rd w A (txs b)) (hq : Rd w B (u64s c)) (hc : ∀ x ∈ c, x < 18446744073709551616) (hnl : n ≤ 140737488355328) (hml : m ≤ 140737488355328) (hl : ∀ x ∈ b, x.length ≤ 140737488355328) :
    Calls Try.prog 37 #[.slice A n cap, .slice B m cap2] w (TextsOut (Dct.txt b c).1 (Dct.txt b c).2 w) := by
  have C := hid (bookCheck_any b A n cap w hn hr hnl hl)
  have hcc := Dct.chk_cases b
  have hnI : (n : Int) ≤ 140737488355328 := by omega
  have hmI : (m : Int) ≤ 140737488355328 := by omega
  by_cases h0 : Dct.chk b = 0
  · by_cases h64 : 64 < c.length
    · rw [Dct.txt_many h0 h64]
      rw [h0] at C
      have h64I : (64 : Int) < (m : Int) := by omega
      clear hn hm hr hq hc hnl hml hcc h0 h64 hl
      go_enter Try.func37, Try.ntmps37
      go_wp2_with fail
      refine Calls.mono C.out ?_
      rintro e w1 ⟨rfl, hx⟩
      have X1 := hid hx
      clear hx
      go_wp2
      go_returns
      exact ⟨none, 0, rfl, fun h => by simp [txs] at h, X1.out⟩
    · have HR3 := hid (fun (j : Nat) (hj : j < c.length) h => @Dct.txt_range b c h0 h64 j hj h)
      have HOK := hid (Dct.txt_ok (b := b) (c := c) h0 h64)
      rw [h0] at C
      have h64I : (m : Int) ≤ 64 := by omega
      have HN := hid hn
      have HM := hid hm
      have HR := hid hr
      have HQ := hid hq
      have HCL := hid hc
      have HML := hid (show m ≤ 64 by omega)
      have hwn : IntKind.u64.wrap (n : Int) = (n : Int) := by rw [IntKind.wrap_u64]; omega
      clear hn hm hr hq hc hnl hml hcc h0 h64 hl
      go_enter Try.func37, Try.ntmps37
      go_wp2_with fail
      refine Calls.mono C.out ?_
      rintro e w1 ⟨rfl, hx⟩
      have X1 := hid hx
      clear hx
      go_wp2
      go_loopw [7, 8] (fun v ix wr => ∃ i : Nat, i ≤ m ∧ ix = .int .i64 i ∧ Hid (∀ j (hj : j < c.length), j < i → c[j] < b.length) ∧ Hid (wr.ownsRow w1.heap.size 9 1 v i (txs ((c.take i).map fun x => b.getD x []))) ∧ Hid (Ext w1 wr)) (fun _ ix _ => m - (intOf ix).toNat)
      case atStart => exact ⟨0, Nat.zero_le _, rfl, hid (fun j _ h => absurd h (Nat.not_lt_zero _)), hid (World.ownsRow_nil _ _ _ _), hid (ext_refl _)⟩
      case round =>
        obtain ⟨i, hi, rfl, HJ, HO, HX⟩ := hrel
        obtain ⟨A3, c3, rfl, hrd3, _⟩ := Rd.owned HO.out
        by_cases hlt : i < m
        · have hltI : (i : Int) < (m : Int) := by omega
          have hic : i < c.length := by rw [HM.out]; exact hlt
          obtain ⟨b1, o1, e1, l1, c1⟩ := ((HQ.out.keep X1.out).keep HX.out).nums i hic
          subst e1
          have d0 := c1 i hic
          have hxl := HCL.out c[i] (List.getElem_mem hic)
          have hxI : ((c[i] : Nat) : Int) ≤ 18446744073709551615 := by omega
          by_cases hlb : c[i] < b.length
          · have hlbI : ((c[i] : Nat) : Int) < (n : Int) := by rw [← HN.out]; omega
            obtain ⟨b2, o2, e2, l2, c2⟩ := ((HR.out.keep X1.out).keep HX.out).texts c[i] hlb
            subst e2
            have d1 := c2 c[i] hlb
            have HJ2 := hid (show ∀ j (hj : j < c.length), j < i + 1 → c[j] < b.length from fun j hj h => by
              rcases Nat.lt_or_ge j i with h2 | h2
              · exact HJ.out j hj h2
              · have : j = i := by omega
                subst this; exact hlb)
            have HS := hid (show (c.take (i + 1)).map (fun x => b.getD x []) = (c.take i).map (fun x => b.getD x []) ++ [b[c[i]]] by
              rw [List.take_succ_eq_append_getElem hic, List.map_append, List.map_singleton, List.getD_eq_getElem?_getD, List.getElem?_eq_getElem hlb]; rfl)
            generalize b[c[i]] = tx at *
            generalize c[i] = x at *
            have HI := hid (show i ≤ 64 by have := HML.out; omega)
            generalize (c.take i).map (fun x => b.getD x []) = L at *
            clear c1 c2 hxl hlb hic hrd3
            go_wp2_with (at_builtin; refine wpList_app rfl (.tmp 31) (.tmp 39) rowTs rfl _ i _ rfl (own_ext HO.out ((ext_refl _).new _)) _ 1 (txs [tx]) rfl (Src.rd Try.underlying55 _ 1 1 _ rfl (rd_lit rfl rfl) (txs_one _) (fun h => by cases h)) (by have := HI.out; unfold maxLen; omega) (by have := HI.out; omega) (by have := HX.out.size; simp; omega) ?_; intro v' w5 hown5 hgrow hat hbel; have HO5 := hid hown5; have HX5 := hid (Below.trans (Ext.new HX.out _) hbel); obtain ⟨A5, c5, rfl, _⟩ := Rd.owned HO5.out; clear hown5 hgrow hat hbel)
            go_roundw
            case rel => exact ⟨i + 1, by omega, by go_num, HJ2, hid (by rw [HS.out, txs_app]; exact HO5.out), HX5⟩
            case measure => simp [intOf] <;> omega
          · have HRR := hid (HR3.out i hic (by omega))
            have hlbI : (n : Int) ≤ ((c[i] : Nat) : Int) := by rw [← HN.out]; omega
            generalize c[i] = x at *
            clear c1 hxl hlb hic hrd3
            go_wp2
            go_returns
            rw [HRR.out]
            exact ⟨none, 0, rfl, fun h => by simp [txs] at h, X1.out.then HX.out⟩
        · obtain rfl : i = m := by omega
          have HRR := hid (HOK.out (fun j hj => HJ.out j hj (by rw [← HM.out]; exact hj)))
          rw [List.take_of_length_le (by rw [HM.out]; exact Nat.le_refl _)] at hrd3
          have HR3 := hid hrd3
          clear hrd3 hlt
          go_wp2
          go_returns
          rw [HRR.out]
          exact ⟨_, c3, by simp only [List.length_map, HM.out]; rfl, HR3.out, X1.out.then HX.out⟩
  · rw [Dct.txt_bad h0]
    generalize Dct.chk b = r at *
    have h1 : ((r : Int) != 0) = true := by rw [bne_iff_ne]; omega
    have h2 : ((r : Int) == 0) = false := by rw [beq_eq_false_iff_ne]; omega
    have hrI : (r : Int) ≤ 4 := by omega
    clear hn hm hr hq hc hnl hml hcc h0 hl
    go_enter Try.func37, Try.ntmps37
    go_wp2_with fail
    refine Calls.mono C.out ?_
    rintro e w1 ⟨rfl, hx⟩
    have X1 := hid hx
    clear hx
    go_wp2
    go_returns
    exact ⟨none, 0, rfl, fun h => by simp [txs] at h, X1.out⟩
set_option maxRecDepth 100000 in
set_option maxHeartbeats 3200000 in
theorem bookOf_any (l : List (List UInt8)) (A : Option Addr) (n cap : Nat) (w : World) (hn : l.length = n) (hr : Rd w A (txs l)) (hnl : n ≤ 1048576) (hl : ∀ x ∈ l, x.length ≤ 140737488355328) :
    Calls Try.prog 27 #[.slice A n cap] w fun e w' => ∃ B cb C cc, e = .returned (.tuple #[.slice B (Dct.bk l).length cb, .slice C (Dct.cds l).length cc]) ∧ Rd w' B (txs (Dct.bk l)) ∧ Rd w' C (u64s (Dct.cds l)) ∧ Ext w w' := by
  have hnI : (n : Int) ≤ 1048576 := by omega
  have HP := hid (fun (t : List UInt8) (s : ByteArray) (hs : s = ⟨t.toArray⟩) (ht : t.length ≤ 140737488355328) wx (hx : Ext w wx) => placeOf_any l A n cap t s hs wx hn (hr.keep hx) (by omega) hl ht)
  have HN := hid hn
  have HR := hid hr
  have HL := hid hl
  have HNL := hid hnl
  have HBL := hid (Dct.bk_len l)
  have HPL := hid (fun s => Dct.plc_le (Dct.bk l) s)
  have HMC := hid (Dct.mst_cds l)
  have HCA := hid (Dct.come_all l)
  have HCT := hid (Dct.cds_text l)
  have HCL := hid (Dct.cds_len l)
  have HCD := hid (show Dct.cds l = l.map (Dct.plc (Dct.bk l)) from rfl)
  generalize Dct.bk l = bk at *
  generalize Dct.cds l = cd at *
  clear hn hr hl hnl
  go_enter Try.func27, Try.ntmps27
  go_wp2
  go_loopw [4, 5, 6, 7] (fun v mo ix _ wr => ∃ i : Nat, i ≤ n ∧ ix = .int .i64 i ∧ mo = .int .i64 ((Dct.mst (cd.take i) : Int) - 1) ∧ Hid (wr.ownsRow w.heap.size 35 1 v i (u64s (cd.take i))) ∧ Hid (Ext w wr)) (fun _ _ ix _ _ => n - (intOf ix).toNat)
  case atStart => exact ⟨0, Nat.zero_le _, rfl, rfl, hid (World.ownsRow_nil _ _ _ _), hid (ext_refl _)⟩
  case round =>
    obtain ⟨i, hi, rfl, rfl, HO, HX⟩ := hrel
    obtain ⟨A3, c3, rfl, hrd3, _⟩ := Rd.owned HO.out
    have hml := Dct.mst_le (cd.take i) (n + 1) (fun x hx => by
      have := List.mem_of_mem_take hx
      rw [HCD.out] at this
      obtain ⟨s, _, rfl⟩ := List.mem_map.1 this
      have := HPL.out s; have := HBL.out; have := HN.out; omega)
    by_cases hlt : i < n
    · have hltI : (i : Int) < (n : Int) := by omega
      have hil : i < l.length := by rw [HN.out]; exact hlt
      obtain ⟨b1, o1, e1, l1, c1⟩ := (HR.out.keep HX.out).texts i hil
      cases e1
      have d0 := c1 i hil
      obtain ⟨S0, hS0⟩ : ∃ S : ByteArray, S = ⟨l[i].toArray⟩ := ⟨_, rfl⟩
      rw [← hS0] at d0
      have CP := hid (HP.out l[i] S0 hS0 (HL.out _ (List.getElem_mem hil)) _ HX.out)
      have hpl := HPL.out l[i]
      have hci : cd[i]? = some (Dct.plc bk l[i]) := by rw [HCD.out, List.getElem?_map, List.getElem?_eq_getElem hil]; rfl
      have HS := hid (show cd.take (i + 1) = cd.take i ++ [Dct.plc bk l[i]] by rw [List.take_add_one, hci]; rfl)
      have HMS := hid (Dct.mst_snoc (cd.take i) (Dct.plc bk l[i]))
      have hpI : (Dct.plc bk l[i] : Int) ≤ 1048576 := by have := HBL.out; have := HN.out; omega
      generalize Dct.plc bk l[i] = p at *
      have HI := hid (show i ≤ 1048576 by have := HNL.out; omega)
      have hwp : IntKind.u64.wrap (p : Int) = (p : Int) := by rw [IntKind.wrap_u64]; omega
      generalize cd.take i = L at *
      generalize Dct.mst L = m at *
      have hmI : (m : Int) ≤ 1048577 := by omega
      clear c1 hS0 hil hpl hci hrd3 hml hlt
      by_cases hpm : m ≤ p
      · have hpmI : (m : Int) - 1 < (p : Int) := by omega
        have HMX := hid (show max m (p + 1) = p + 1 by omega)
        go_wp2_with (first
          | (go_at_call 61; refine Calls.mono CP.out ?_; rintro e w4 ⟨rfl, hx⟩; have X4 := hid (HX.out.then hx); have HO4 := hid (own_ext HO.out hx); clear hx)
          | (at_builtin; refine wpList_app rfl (.tmp 23) (.tmp 26) rowU64 rfl _ i _ rfl (own_ext HO4.out ((ext_refl _).new _)) _ 1 (u64s [p]) rfl (Src.rd Try.underlying56 _ 1 1 _ rfl (rd_lit rfl rfl) (u64s_one _) (fun h => by cases h)) (by have := HI.out; unfold maxLen; omega) (by have := HI.out; omega) (by have := X4.out.size; simp; omega) ?_; intro v' w5 hown5 hgrow hat hbel; have HO5 := hid hown5; have HX5 := hid (Below.trans (Ext.new X4.out _) hbel); obtain ⟨A5, c5, rfl, _⟩ := Rd.owned HO5.out; clear hown5 hgrow hat hbel))
        go_roundw
        case rel => exact ⟨i + 1, by omega, by go_num, by rw [HS.out, HMS.out, HMX.out]; go_num, hid (by rw [HS.out, u64s_app]; exact HO5.out), HX5⟩
        case measure => simp [intOf] <;> omega
      · have hpmI : ¬ (m : Int) - 1 < (p : Int) := by omega
        have HMX := hid (show max m (p + 1) = m by omega)
        go_wp2_with (first
          | (go_at_call 61; refine Calls.mono CP.out ?_; rintro e w4 ⟨rfl, hx⟩; have X4 := hid (HX.out.then hx); have HO4 := hid (own_ext HO.out hx); clear hx)
          | (at_builtin; refine wpList_app rfl (.tmp 23) (.tmp 26) rowU64 rfl _ i _ rfl (own_ext HO4.out ((ext_refl _).new _)) _ 1 (u64s [p]) rfl (Src.rd Try.underlying56 _ 1 1 _ rfl (rd_lit rfl rfl) (u64s_one _) (fun h => by cases h)) (by have := HI.out; unfold maxLen; omega) (by have := HI.out; omega) (by have := X4.out.size; simp; omega) ?_; intro v' w5 hown5 hgrow hat hbel; have HO5 := hid hown5; have HX5 := hid (Below.trans (Ext.new X4.out _) hbel); obtain ⟨A5, c5, rfl, _⟩ := Rd.owned HO5.out; clear hown5 hgrow hat hbel))
        go_roundw
        case rel => exact ⟨i + 1, by omega, by go_num, by rw [HS.out, HMS.out, HMX.out], hid (by rw [HS.out, u64s_app]; exact HO5.out), HX5⟩
        case measure => simp [intOf] <;> omega
    · obtain rfl : i = n := by omega
      have htk : cd.take i = cd := List.take_of_length_le (by rw [HCL.out, HN.out]; exact Nat.le_refl _)
      rw [htk] at hrd3 ⊢
      rw [HMC.out]
      have hbm : bk.length ≤ 1048576 := by have := HBL.out; have := HN.out; have := HNL.out; omega
      have hbI : (bk.length : Int) ≤ 1048576 := by omega
      have HBM := hid hbm
      refine wp_gen (fun w' => Rd w' A3 (u64s cd) ∧ Ext w w') ⟨hrd3, HX.out⟩ ?_
      rintro wb ⟨hrc, hxb⟩
      have HRC := hid hrc
      have HXB := hid hxb
      clear hlt htk hrd3 hml HO hbm hrc hxb HX
      go_wp2
      go_loopw [8, 9, 10] (fun v kx _ ws => ∃ k : Nat, k ≤ bk.length ∧ kx = .int .i64 k ∧ Hid (ws.ownsRow wb.heap.size 9 1 v k (txs (bk.take k))) ∧ Hid (Ext wb ws)) (fun _ kx _ _ => bk.length - (intOf kx).toNat)
      case atStart => exact ⟨0, Nat.zero_le _, rfl, hid (World.ownsRow_nil _ _ _ _), hid (ext_refl _)⟩
      case round =>
        obtain ⟨k, hk, rfl, HO, HXX⟩ := hrel
        obtain ⟨A4, c4, rfl, hrd4, _⟩ := Rd.owned HO.out
        by_cases hkb : k < bk.length
        · have hkI : (k : Int) ≤ (bk.length : Int) - 1 := by omega
          have HKB := hid hkb
          have HC0 := hid (HCA.out k hkb)
          have HCN := hid (Dct.come_end cd k i (by rw [HCL.out, HN.out]; exact Nat.le_refl _))
          have HCS := hid (Dct.come_step cd k)
          have HCB := hid (show ∀ x ∈ cd, x ≤ bk.length from fun x hx => by
            rw [HCD.out] at hx
            obtain ⟨s, _, rfl⟩ := List.mem_map.1 hx
            exact HPL.out s)
          have hkx : (k : Int) ≤ 1048576 := by omega
          clear hkb hrd4
          go_wp2
          go_loopw [8, 10] (fun v jx wt => ∃ j : Nat, j ≤ i ∧ jx = .int .i64 ((j : Int) - 1) ∧ Hid (wt.ownsRow wb.heap.size 9 1 v (k + (Dct.come cd k j).toNat) (txs (bk.take (k + (Dct.come cd k j).toNat)))) ∧ Hid (Ext wb wt)) (fun _ jx _ => (intOf jx + 1).toNat)
          case atStart => exact ⟨i, Nat.le_refl _, rfl, hid (by rw [HCN.out]; exact HO.out), HXX⟩
          case round =>
            obtain ⟨j, hj, rfl, HO3, HX3⟩ := hrel
            by_cases hj0 : 1 ≤ j
            · obtain ⟨p, rfl⟩ : ∃ p, j = p + 1 := ⟨j - 1, by omega⟩
              have hpI : ((p + 1 : Nat) : Int) - 1 = (p : Int) := by omega
              rw [hpI]
              have hp0 : (0 : Int) ≤ (p : Int) := by omega
              have hpb : (p : Int) ≤ 1048576 := by omega
              have hpc : p < cd.length := by rw [HCL.out, HN.out]; omega
              have hpl : p < l.length := by rw [HN.out]; omega
              obtain ⟨b1, o1, e1, l1, c1⟩ := (HRC.out.keep HX3.out).nums p hpc
              cases e1
              have d0 := c1 p hpc
              have hst := HCS.out p hpc
              have hcb : cd[p] ≤ 1048576 := by have := HCB.out _ (List.getElem_mem hpc); have := HBM.out; omega
              have hcx : (cd[p] : Int) ≤ 1048576 := by omega
              have HCX := hid (show cd[p] = k → bk[k]? = some l[p] from fun h => HCT.out k p hpl (by
                rw [← h]
                have h2 : cd[p]? = some (Dct.plc bk l[p]) := by rw [HCD.out, List.getElem?_map, List.getElem?_eq_getElem hpl]; rfl
                rw [List.getElem?_eq_getElem hpc] at h2
                injection h2 with h2; exact h2.symm))
              obtain ⟨b2, o2, e2, l2, c2⟩ := (HR.out.keep (Ext.then HXB.out HX3.out)).texts p hpl
              cases e2
              have d1 := c2 p hpl
              generalize cd[p] = x at *
              generalize l[p] = tx at *
              obtain ⟨f, hf⟩ : ∃ f, f = Dct.come cd k (p + 1) := ⟨_, rfl⟩
              rw [← hf] at hst HO3
              clear c1 c2 hpc hpl hf hj0 hcb
              obtain ⟨A5, c5, rfl, _⟩ := Rd.owned HO3.out
              by_cases hxk : x = k
              · subst hxk
                cases f with
                | true =>
                  have HD := hid (show Dct.come cd x p = true by rw [hst]; simp)
                  have hne : (((x + true.toNat : Nat) : Int) == (x : Int)) = false := by rw [beq_eq_false_iff_ne]; show ¬ (((x + 1 : Nat) : Int) = (x : Int)); omega
                  have hne2 : (((x : Int) + 1) == (x : Int)) = false := by rw [beq_eq_false_iff_ne]; omega
                  clear hst
                  simp only [Bool.toNat_true] at HO3 ⊢
                  go_wp2
                  go_roundw
                  case rel => exact ⟨p, by omega, by go_num, hid (by rw [HD.out]; exact HO3.out), HX3⟩
                  case measure => simp [intOf]
                | false =>
                  have HD := hid (show Dct.come cd x p = true by rw [hst]; simp)
                  have HS := hid (show bk.take (x + 1) = bk.take x ++ [tx] by rw [List.take_add_one, HCX.out rfl]; rfl)
                  have hI := hid (show x ≤ 1048576 by omega)
                  clear hst
                  simp only [Bool.toNat_false, Nat.add_zero] at HO3 ⊢
                  go_wp2_with (at_builtin; refine wpList_app rfl (.tmp 57) (.tmp 62) rowTs rfl _ x _ rfl (own_ext HO3.out ((ext_refl _).new _)) _ 1 (txs [tx]) rfl (Src.rd Try.underlying55 _ 1 1 _ rfl (rd_lit rfl rfl) (txs_one _) (fun h => by cases h)) (by have := hI.out; unfold maxLen; omega) (by have := hI.out; omega) (by have := HX3.out.size; simp; omega) ?_; intro v' w5 hown5 hgrow hat hbel; have HO5 := hid hown5; have HX5 := hid (Below.trans (Ext.new HX3.out _) hbel); obtain ⟨A6, c6, rfl, _⟩ := Rd.owned HO5.out; clear hown5 hgrow hat hbel)
                  go_roundw
                  case rel => exact ⟨p, by omega, by go_num, hid (by rw [HD.out]; show World.ownsRow _ _ _ _ _ (x + 1) (txs (bk.take (x + 1))); rw [HS.out, txs_app]; exact HO5.out), HX5⟩
                  case measure => simp [intOf]
              · have HD := hid (show Dct.come cd k p = f by rw [hst, decide_eq_false hxk, Bool.false_or])
                have hne : ((x : Int) == (k : Int)) = false := by rw [beq_eq_false_iff_ne]; omega
                clear hst hxk
                go_wp2
                go_roundw
                case rel => exact ⟨p, by omega, by go_num, hid (by rw [HD.out]; exact HO3.out), HX3⟩
                case measure => simp [intOf]
            · obtain rfl : j = 0 := by omega
              rw [HC0.out] at HO3
              simp only [Bool.toNat_true] at HO3
              obtain ⟨A5, c5, rfl, _⟩ := Rd.owned HO3.out
              clear hj0
              go_wp2
              go_roundw
              case rel => exact ⟨k + 1, by have := HKB.out; omega, by go_num, HO3, HX3⟩
              case measure => simp [intOf]; have := HKB.out; omega
        · obtain rfl : k = bk.length := by omega
          rw [List.take_of_length_le (Nat.le_refl _)] at hrd4
          have HR4 := hid hrd4
          have HRC2 := hid (HRC.out.keep HXX.out)
          clear hkb hrd4
          go_wp2
          go_returns
          exact ⟨_, c4, _, c3, by rw [HCL.out, HN.out]; rfl, HR4.out, HRC2.out, HXB.out.then HXX.out⟩
end Go.Proofs.Ytpheegfanljeeaa
