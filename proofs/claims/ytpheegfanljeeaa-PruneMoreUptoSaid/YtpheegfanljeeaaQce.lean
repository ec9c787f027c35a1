/- Conditions: the law PruneMore: known, the walk (printed by gen_qcd.py). -/
import Derived.Test.YtpheegfanljeeaaQcd
import Derived.Test.YtpheegfanljeeaaQcf
namespace Hy
open Go Go.RowKit
theorem cont_app (a b : List Rw) : cont (a ++ b) = cont a ++ cont b := by simp [cont]
theorem rws_app' (a b : List Rw) : rws' (a ++ b) = rws' a ++ rws' b := by simp [rws']
end Hy
namespace Go.Proofs.Ytpheegfanljeeaa
open Go.RowKit Hy
theorem rowRw : RowT Try.prog 43 24 1 24 := RowT.mk' (z := .slice none 0 0) Try.underlying43 (by kernel_rfl) rfl (by decide)
/-- what known answers -/
def Knows (ks : List Int) (rows : List (List Cel)) (m : Nat) (w : World) (e : Ending) (w' : World) : Prop :=
  ∃ (A B : Option Addr) (N c1 M c2 : Nat) (ok : Bool), e = .returned (.tuple #[.slice A N c1, .slice B M c2, .bool ok]) ∧ Ext w w' ∧ (ok = true → N = m ∧ M = m ∧ Rd w' A (sts (Cnd.knS rows m)) ∧ Rd w' B (frs (Cnd.knF rows m)) ∧ ∀ c (hc : c < ks.length), Cel.cchk ks[c] (Cnd.colm rows c) = 0)
set_option maxHeartbeats 12800000 in
set_option maxRecDepth 100000 in
theorem lawKnown_any (ks : List Int) (L : List Rw) (K RA : Option Addr) (m kcap q qcap : Nat) (w : World) (hq : L.length = q) (hL : Rd w RA (rws' L)) (hql : q ≤ 2097152) (hok : ∀ x ∈ L, RwOk w x) (hcn : ∀ x ∈ L, ∀ c ∈ x.2, c.2.1 < 18446744073709551616) (hm : ks.length = m) (hk : Rd w K (i64s ks)) (hml : m ≤ 1048576) :
    Calls Try.prog 25 #[.slice K m kcap, .slice RA q qcap] w (Knows ks (cont L) m w) := by
  obtain ⟨rows, hrows⟩ : ∃ rows, rows = cont L := ⟨_, rfl⟩
  have HROW := hid hrows
  have HRA := hid hL
  have HQL := hid hq
  have HOK := hid hok
  have HCN := hid hcn
  have HKL := hid hm
  have HKR := hid hk
  have HQB := hid hql
  have HMB := hid hml
  have hqI : (q : Int) ≤ 2097152 := by omega
  have hmI : (m : Int) ≤ 1048576 := by omega
  rw [← hrows]
  clear hrows hL hq hok hcn hm hk hql hml
  go_enter Try.func25, Try.ntmps25
  go_wp2
  go_loopw [7, 8, 9, 10, 11, 12] (fun x7 x8 x9 _ _ _ wr => ∃ k : Nat, k ≤ m ∧ x9 = .int .i64 k ∧ Hid (wr.ownsRow w.heap.size 45 8 x7 k (sts (Cnd.knS rows k))) ∧ Hid (wr.ownsRow w.heap.size 48 4 x8 k (frs (Cnd.knF rows k))) ∧ Hid (Ext w wr) ∧ Hid (∀ c (hc : c < ks.length), c < k → Cel.cchk ks[c] (Cnd.colm rows c) = 0) ∧ Hid (0 < k → ∀ r ∈ rows, r.length = ks.length)) (fun _ _ x9 _ _ _ _ => m - (intOf x9).toNat)
  case atStart => exact ⟨0, Nat.zero_le _, rfl, hid (World.ownsRow_nil _ _ _ _), hid (World.ownsRow_nil _ _ _ _), hid (ext_refl _), hid (fun c hc h => absurd h (Nat.not_lt_zero _)), hid (fun h => absurd h (Nat.lt_irrefl _))⟩
  case round =>
    obtain ⟨k, hk, rfl, HS, HF, HX, HCO, HLN⟩ := hrel
    by_cases hlt : k < m
    · have hkI : (k : Int) < (m : Int) := by omega
      have HKK := hid (show k < ks.length by rw [HKL.out]; exact hlt)
      obtain ⟨B7, c7, hB7, _⟩ := Rd.owned HS.out
      obtain ⟨B8, c8, hB8, _⟩ := Rd.owned HF.out
      subst hB7
      subst hB8
      have HLT := hid hlt
      clear hlt
      go_wp2
      go_loopw [10, 11] (fun x10 x11 wr => ∃ i : Nat, i ≤ q ∧ x11 = .int .i64 i ∧ Hid (wr.ownsRow w.heap.size 37 3 x10 i (cls ((Cnd.colm rows k).take i))) ∧ Hid (wr.ownsRow w.heap.size 45 8 (.slice B7 k c7) k (sts (Cnd.knS rows k))) ∧ Hid (wr.ownsRow w.heap.size 48 4 (.slice B8 k c8) k (frs (Cnd.knF rows k))) ∧ Hid (Ext w wr) ∧ Hid (∀ j (hj : j < rows.length), j < i → rows[j].length = ks.length)) (fun _ x11 _ => q - (intOf x11).toNat)
      case atStart => exact ⟨0, Nat.zero_le _, rfl, hid (World.ownsRow_nil _ _ _ _), HS, HF, HX, hid (fun j hj h => absurd h (Nat.not_lt_zero _))⟩
      case round =>
        obtain ⟨i, hi, rfl, HL2, HS2, HF2, HX2, HR2⟩ := hrel
        by_cases hlti : i < q
        · have hiI : (i : Int) < (q : Int) := by omega
          have hiL : i < L.length := by rw [HQL.out]; exact hlti
          obtain ⟨b1, o1, e1, l1, cc1⟩ := HRA.out.rows i hiL
          have d0 := (HX2.out.cell (p := ⟨b1, o1 + i, none⟩) l1).trans (cc1 i hiL)
          have hok := HOK.out _ (List.getElem_mem hiL)
          have hct := Cnd.colm_take rows k i (by rw [HROW.out, cont_len]; exact hiL)
          have hgt : rows[i]'(by rw [HROW.out, cont_len]; exact hiL) = L[i].2 := by simp only [HROW.out]; exact cont_get L i hiL
          rw [hgt] at hct
          have HGT := hid (fun (h : L[i].2.length = ks.length) => (show ∀ j (hj : j < rows.length), j < i + 1 → rows[j].length = ks.length from fun j hj hji => by
            by_cases hje : j = i
            · subst hje; rw [hgt]; exact h
            · exact HR2.out j hj (by omega)))
          clear cc1 hgt
          generalize L[i] = x at *
          obtain ⟨⟨A, nn, cp⟩, l⟩ := x
          obtain ⟨hk1, hk2, hk3, hk4⟩ := hok
          simp only at d0 hk1 hk2 hk3 hk4 hct
          have hRA := hid e1
          obtain ⟨B10, c10, hB10, _⟩ := Rd.owned HL2.out
          subst hB10
          clear hiL
          by_cases hnm : nn = m
          · subst hnm
            have hkl : k < l.length := by rw [hk1]; exact HLT.out
            obtain ⟨b2, o2, rfl, l2, cc2⟩ := hk4.cels k hkl
            obtain ⟨g0, g1, g2⟩ := cc2 k hkl
            have r0 := (HX2.out.cell (p := ⟨b2, o2 + k * 3, none⟩) l2).trans g0
            have r1 := (HX2.out.cell (p := ⟨b2, o2 + k * 3 + 1, none⟩) l2).trans g1
            have r2 := (HX2.out.cell (p := ⟨b2, o2 + k * 3 + 2, none⟩) l2).trans g2
            have hx : l.getD k Cnd.O = l[k] := by rw [List.getD_eq_getElem?_getD, List.getElem?_eq_getElem hkl]; rfl
            rw [hx] at hct
            have HR3 := hid (HGT.out (by rw [hk1, HKL.out]))
            clear g0 g1 g2 cc2 hx hk1 hk2 hk3 hk4
            generalize l[k] = x at *
            clear hkl
            obtain ⟨k', n', s'⟩ := x
            simp only at r0 r1 r2
            have HCT := hid hct
            have NS := hid ((own_ne HS2.out HL2.out (by decide)).imp_right Ne.symm)
            have NF := hid ((own_ne HF2.out HL2.out (by decide)).imp_right Ne.symm)
            have HSZ := hid HX2.out.size
            clear hct HGT
            have e1 := hRA.out
            subst e1
            go_wp2_with (at_builtin; go_loud (refine wpList_app rfl (.tmp 34) (.tmp 42) rowCl rfl _ i (cls ((Cnd.colm rows k).take i)) rfl (own_ext HL2.out ((ext_refl _).new _)) _ 1 (cls [(k', n', s')]) rfl (Src.rd Try.underlying24 _ 1 1 _ rfl (rd_lit rfl rfl) (cls_one _) (fun h => by cases h)) (by have := HQB.out; unfold maxLen; omega) (by have := HQB.out; omega) (by have := HSZ.out; simp; omega) ?_; intro v3 w3 hown3 hg3 ha3 hb3; have O3 := hid hown3; have S3 := hid (own_gr (own_ext HS2.out ((ext_refl _).new _)) hg3 NS.out); have F3 := hid (own_gr (own_ext HF2.out ((ext_refl _).new _)) hg3 NF.out); have X3 := hid (Below.trans (HX2.out.new _) hb3); clear hown3 hg3 ha3 hb3))
            go_roundw
            case rel => exact ⟨i + 1, by omega, by go_num, hid (by rw [HCT.out, cls_app]; exact O3.out), S3, F3, X3, HR3⟩
            case measure => simp [intOf]; omega
          · have hnI : ((nn : Int) != (m : Int)) = true := by simp; omega
            clear hk1 hk2 hk3 hk4 hct HGT hnm
            have e1 := hRA.out
            subst e1
            go_wp2
            go_returns
            exact ⟨none, none, 0, 0, 0, 0, false, rfl, HX2.out, fun h => by cases h⟩
        · obtain rfl : i = q := by omega
          have hti : (Cnd.colm rows k).take i = Cnd.colm rows k := List.take_of_length_le (by rw [Cnd.colm_len, HROW.out, cont_len, HQL.out]; exact Nat.le_refl _)
          rw [hti] at HL2
          have HRL := hid (show ∀ r ∈ rows, r.length = ks.length from fun r hr => by
            obtain ⟨j, hj, rfl⟩ := List.getElem_of_mem hr
            exact HR2.out j hj (by rw [← HQL.out, ← cont_len, ← HROW.out]; exact hj))
          obtain ⟨B10, c10, hB10, hrd, _⟩ := Rd.owned HL2.out
          subst hB10
          obtain ⟨b1, o1, e1, l1, cc1⟩ := HKR.out.ints k HKK.out
          have d0 := (HX2.out.cell (p := ⟨b1, o1 + k, none⟩) l1).trans (cc1 k HKK.out)
          have HOF := hid (of_any (ks[k]'HKK.out) (Cnd.colm rows k) B10 i c10 _ (by rw [Cnd.colm_len, HROW.out, cont_len]; exact HQL.out) hrd (by have := HQB.out; omega))
          have HCV := hid (fun (h : Cel.cchk (ks[k]'HKK.out) (Cnd.colm rows k) = 0) => (show ∀ c (hc : c < ks.length), c < k + 1 → Cel.cchk ks[c] (Cnd.colm rows c) = 0 from fun c hc hck => by
            by_cases hce : c = k
            · subst hce; exact h
            · exact HCO.out c hc (by omega)))
          have HBO := hid (fun (h : Cel.cchk (ks[k]'HKK.out) (Cnd.colm rows k) = 0) wx (hx : Rd wx B10 (cls (Cnd.colm rows k))) => of_f_any ((Cnd.colm rows k).map Cnd.toC) i B10 c10 wx (by rw [cls_toC]; exact hx) (fun y hy => by
            obtain ⟨z, hz, rfl⟩ := List.mem_map.1 hy
            obtain ⟨r, hr, rfl⟩ := List.mem_map.1 hz
            refine ⟨?_, Nat.le_trans (Cnd.alone_size16 ((Cnd.cchk_zero h).2.2 _ hz)) (by decide)⟩
            show (r.getD k Cnd.O).2.1 < _
            rw [HROW.out] at hr
            obtain ⟨x, hx, rfl⟩ := List.mem_map.1 hr
            rw [List.getD_eq_getElem?_getD]
            cases hg : x.2[k]? with
            | none => show 0 < _; decide
            | some c => exact HCN.out x hx c (List.mem_of_getElem? hg)) (by rw [List.length_map, Cnd.colm_len, HROW.out, cont_len]; exact HQL.out) (by have := HQB.out; omega))
          clear hti hrd cc1
          generalize hkd : ks[k]'HKK.out = kd at *
          have hE7 := Cel.cchk_le kd (Cnd.colm rows k)
          obtain ⟨E, hE⟩ : ∃ E, E = Cel.cchk kd (Cnd.colm rows k) := ⟨_, rfl⟩
          rw [← hE] at HOF HCV HBO hE7
          have e1' := hid e1
          clear hE hkd e1
          have e1 := e1'.out
          subst e1
          by_cases hE0 : E = 0
          · subst hE0
            rw [if_pos rfl] at HOF
            have HKS := hid (Cnd.knS_succ rows k)
            have HKF := hid (Cnd.knF_succ rows k)
            have HBV := hid (HBO.out rfl)
            have HC3 := hid (HCV.out rfl)
            obtain ⟨SV, hSV⟩ : ∃ s, s = Cel.rawS (Cnd.colm rows k) := ⟨_, rfl⟩
            rw [← hSV] at HOF HKS
            obtain ⟨FV, hFV⟩ : ∃ f, f = Bloom.of Bloom.none ((Cnd.colm rows k).map Cnd.toC) := ⟨_, rfl⟩
            rw [← hFV] at HBV HKF
            clear hSV hFV HBO HCV hE7
            obtain ⟨a1, a2, ⟨a3, a4, a5⟩, a6, a7, a8⟩ := SV
            have HF0 : Hid (four4 FV = [.int .u64 (FV 0 : Nat), .int .u64 (FV 1 : Nat), .int .u64 (FV 2 : Nat), .int .u64 (FV 3 : Nat)]) := hid rfl
            generalize hf0 : FV 0 = f0 at *
            generalize hf1 : FV 1 = f1 at *
            generalize hf2 : FV 2 = f2 at *
            generalize hf3 : FV 3 = f3 at *
            have HFF := hid (show frs [FV] = [.int .u64 (f0 : Int), .int .u64 (f1 : Int), .int .u64 (f2 : Int), .int .u64 (f3 : Int)] by simp only [frs, List.flatMap_cons, List.flatMap_nil, List.append_nil]; exact HF0.out)
            clear hf0 hf1 hf2 hf3
            go_wp2_with fail
            refine Calls.mono HOF.out ?_
            rintro e w5 ⟨rfl, hx⟩
            replace HX2 := hid (HX2.out.then hx)
            replace HS2 := hid (own_ext HS2.out hx)
            replace HF2 := hid (own_ext HF2.out hx)
            replace HL2 := hid (own_ext HL2.out hx)
            have NS := hid ((own_ne HF2.out HS2.out (by decide)).imp_right Ne.symm)
            have NL := hid ((own_ne HL2.out HS2.out (by decide)).imp_right Ne.symm)
            have NF := hid ((own_ne HS2.out HF2.out (by decide)).imp_right Ne.symm)
            have HSZ := hid HX2.out.size
            clear hx d0
            go_wp2_with (first
              | (at_builtin; refine wpList_app rfl (.tmp 55) (.tmp 57) rowSt rfl _ k (sts (Cnd.knS rows k)) rfl (own_ext HS2.out (((ext_refl _).new _).new _)) _ 1 (sts [(a1, a2, (a3, a4, a5), a6, a7, a8)]) rfl (Src.rd Try.underlying31 _ 1 1 _ rfl (rd_lit (by simp) rfl) (sts_one _) (fun h => by cases h)) (by have := HMB.out; unfold maxLen; omega) (by have := HMB.out; omega) (by have := HSZ.out; simp; omega) ?_; intro v6 w6 hown6 hg6 ha6 hb6; have S6 := hid hown6; have F6 := hid (own_gr (own_ext HF2.out (((ext_refl _).new _).new _)) hg6 NS.out); have L6 := hid (own_gr (own_ext HL2.out (((ext_refl _).new _).new _)) hg6 NL.out); have X6 := hid (Below.trans ((HX2.out.new _).new _) hb6); obtain ⟨C7, k7, hC7, _⟩ := Rd.owned S6.out; subst hC7; clear hown6 hg6 ha6 hb6)
              | (go_at_call 23; go_loud (refine Calls.mono (HBV.out _ (by obtain ⟨_, _, h1, h2, _⟩ := Rd.owned L6.out; injection h1 with h1; subst h1; exact h2)) ?_; rintro e w7 ⟨rfl, hx⟩; have S7 := hid (own_ext S6.out hx); have F7 := hid (own_ext F6.out hx); have X7 := hid (Ext.then X6.out hx); have NF7 := hid ((own_ne S7.out F7.out (by decide)).imp_right Ne.symm); clear hx))
              | (at_builtin; refine wpList_app rfl (.tmp 59) (.tmp 62) rowFr rfl _ k (frs (Cnd.knF rows k)) rfl (own_ext F7.out ((ext_refl _).new _)) _ 1 (frs [FV]) rfl (Src.rd Try.underlying32 _ 1 1 _ rfl (rd_lit rfl HFF.out.symm) (frs_one _) (fun h => by cases h)) (by have := HMB.out; unfold maxLen; omega) (by have := HMB.out; omega) (by have := X7.out.size; simp; omega) ?_; intro v8 w8 hown8 hg8 ha8 hb8; have F8 := hid hown8; have S8 := hid (own_gr (own_ext S7.out ((ext_refl _).new _)) hg8 NF7.out); have X8 := hid (Below.trans (Ext.new X7.out _) hb8); clear hown8 hg8 ha8 hb8))
            go_roundw
            case rel => exact ⟨k + 1, by have := HLT.out; omega, by go_num, hid (by rw [HKS.out, sts_app]; exact S8.out), hid (by rw [HKF.out, frs_app]; exact F8.out), X8, HC3, hid (fun _ => HRL.out)⟩
            case measure => simp [intOf]; have := HLT.out; omega
          · have e1 : ((E : Int) != 0) = true := by simp; omega
            rw [if_neg hE0] at HOF
            clear HBO HCV hE7 hE0
            go_wp2_with fail
            refine Calls.mono HOF.out ?_
            rintro e w5 ⟨rfl, hx⟩
            replace HX2 := hid (HX2.out.then hx)
            clear hx
            go_wp2
            go_returns
            exact ⟨none, none, 0, 0, 0, 0, false, rfl, HX2.out.new _, fun h => by cases h⟩
    · obtain rfl : k = m := by omega
      clear hlt
      obtain ⟨B7, c7, hB7, hr7, _⟩ := Rd.owned HS.out
      obtain ⟨B8, c8, hB8, hr8, _⟩ := Rd.owned HF.out
      subst hB7
      subst hB8
      have H7 := hid hr7
      have H8 := hid hr8
      clear hr7 hr8 HS HF
      go_wp2
      go_returns
      exact ⟨B7, B8, k, c7, k, c8, true, rfl, HX.out, fun _ => ⟨rfl, rfl, H7.out, H8.out, fun c hc => HCO.out c hc (by rw [← HKL.out]; exact hc)⟩⟩
set_option maxHeartbeats 12800000 in
set_option maxRecDepth 100000 in
theorem pruneMore_walk (ks : List Int) (p : List Cnd) (L M : List Rw) (P K RA RB : Option Addr) (n pcap m kcap q qcap r rcap : Nat) (w : World) (hn : p.length = n) (hp : Rd w P (cns p)) (hpn : ∀ c ∈ p, c.2.2.2.1 < 18446744073709551616) (hnl : n ≤ 140737488355328) (hq : L.length = q) (hL : Rd w RA (rws' L)) (hql : q ≤ 1048576) (hok : ∀ x ∈ L, RwOk w x) (hcn : ∀ x ∈ L, ∀ c ∈ x.2, c.2.1 < 18446744073709551616) (hm : ks.length = m) (hk : Rd w K (i64s ks)) (hml : m ≤ 1048576) (hq0 : RA = none → q = 0)
    (hr : M.length = r) (hM : Rd w RB (rws' M)) (hrl : r ≤ 1048576) (hok2 : ∀ x ∈ M, RwOk w x) (hcn2 : ∀ x ∈ M, ∀ c ∈ x.2, c.2.1 < 18446744073709551616) (hr0 : RB = none → r = 0) :
    Calls Try.prog 7 #[.slice P n pcap, .slice K m kcap, .slice RA q qcap, .slice RB r rcap] w fun e w' => e = .returned (.bool true) ∧ Ext w w' := by
  have HPR := hid (fun (rows : List (List Cel)) (A B : Option Addr) (c1 c2 : Nat) wx (hx : Ext w wx) (h2 : Rd wx A (sts (Cnd.knS rows m))) (h4 : Rd wx B (frs (Cnd.knF rows m))) => prune_any ks p (Cnd.knS rows m) (Cnd.knF rows m) P K A B n pcap m kcap m c1 m c2 wx hn (hp.keep hx) hpn hnl hm (hk.keep hx) (by omega) (Cnd.knS_len _ _) h2 (by omega) (Cnd.knF_len _ _) h4 (by omega) (fun f hf => by
    obtain ⟨c, _, rfl⟩ := List.mem_map.1 hf
    exact Bloom.of_ok Bloom.none_ok _))
  have HK1 := hid (fun wx (hx : Ext w wx) => lawKnown_any ks L K RA m kcap q qcap wx hq (hL.keep hx) (by omega) (fun x h => (hok x h).keep hx) hcn hm (hk.keep hx) hml)
  have HK2 := hid (fun wx (A : Option Addr) (N c : Nat) (hx : Ext w wx) (hN : N = q + r) (hA : Rd wx A (rws' (L ++ M))) => lawKnown_any ks (L ++ M) K A m kcap N c wx (by rw [List.length_append, hq, hr, hN]) hA (by omega) (fun x h => by
    rcases List.mem_append.1 h with h | h
    · exact (hok x h).keep hx
    · exact (hok2 x h).keep hx) (fun x h => by
    rcases List.mem_append.1 h with h | h
    · exact hcn x h
    · exact hcn2 x h) hm (hk.keep hx) hml)
  have HMORE := hid (fun (h1 : ∀ c (hc : c < ks.length), Cel.cchk ks[c] (Cnd.colm (cont L) c) = 0) (h2 : ∀ c (hc : c < ks.length), Cel.cchk ks[c] (Cnd.colm (cont (L ++ M)) c) = 0) => by
    rw [cont_app] at h2
    have h := Cnd.more (p := p) h1 h2
    rw [← cont_app, hm] at h
    exact h)
  have HLE := hid (Cnd.chk_le ks p)
  have RL := hid hL
  have RM := hid hM
  have HQ0 := hid hq0
  have HR0 := hid hr0
  have HQL := hid hq
  have HRL := hid hr
  have HQB := hid hql
  have HRB := hid hrl
  have hqI : (q : Int) ≤ 1048576 := by omega
  have hrI : (r : Int) ≤ 1048576 := by omega
  clear hn hp hpn hnl hq hL hql hok hcn hm hk hml hq0 hr hM hrl hok2 hcn2 hr0
  go_enter Try.func7, Try.ntmps7
  go_wp2_with fail
  refine Calls.mono (predBegun_any _) ?_
  rintro e w1 ⟨rfl, hx⟩
  have Xp := hid hx
  clear hx
  go_wp2_with fail
  refine Calls.mono (HK1.out _ Xp.out) ?_
  rintro e w2 ⟨A1, B1, N1, c1, M1, c1', ok1, rfl, hx, hk1⟩
  replace Xp := hid (Xp.out.then hx)
  have HKN1 := hid hk1
  clear hx hk1
  replace RL := hid (RL.out.keep Xp.out)
  replace RM := hid (RM.out.keep Xp.out)
  go_wp2_with (first
    | (at_builtin; have OC := hid (own_new (w := w2) (e := 24) (size := 1) (base := w2.heap.size) (n := 0) (C := #[]) (g := w2.heap.size) rfl rfl (Nat.le_refl _) (by decide)); have YC := hid ((ext_refl w2).new (.cells #[] 24)); refine wpList_app rfl (.tmp 30) (.tmp 31) rowRw rfl _ 0 ((#[] : Array Value).toList) rfl OC.out _ q (rws' L) rfl (Src.rd Try.underlying43 _ _ _ _ (by rw [rws_len, HQL.out, Nat.mul_one]) (RL.out.keep YC.out) (rws_one _) HQ0.out) (by have := HQB.out; unfold maxLen; omega) (by have := HQB.out; omega) (by have := YC.out.size; first | exact this | (simp at this ⊢; omega)) ?_; intro vv w3 hown hg ha hb; replace OC := hid hown; replace YC := hid (YC.out.trans hb); clear hown hg ha hb)
    | (at_builtin; refine wpList_app rfl (.tmp 32) (.tmp 33) rowRw rfl _ (0 + q) ((#[] : Array Value).toList ++ rws' L) rfl OC.out _ r (rws' M) rfl (Src.rd Try.underlying43 _ _ _ _ (by rw [rws_len, HRL.out, Nat.mul_one]) (RM.out.keep YC.out) (rws_one _) HR0.out) (by have := HQB.out; have := HRB.out; unfold maxLen; omega) (by have := HQB.out; have := HRB.out; omega) (by have := YC.out.size; first | exact this | (simp at this ⊢; omega)) ?_; intro vv w4 hown hg ha hb; replace OC := hid hown; replace YC := hid (YC.out.trans hb); clear hown hg ha hb; obtain ⟨B5, c5, hvv, hrd, _⟩ := Rd.owned OC.out; subst hvv; have R5 := hid (show Rd w4 B5 (rws' (L ++ M)) by rw [rws_app']; exact hrd); replace Xp := hid (Xp.out.then YC.out); have H5 := hid (show Ext w2 w4 from YC.out); clear hrd OC YC)
    | fail)
  refine Calls.mono (HK2.out _ B5 _ _ Xp.out (by omega) R5.out) ?_
  rintro e w5 ⟨A2, B2, N2, c2, M2, c2', ok2, rfl, hx, hk2⟩
  replace Xp := hid (Xp.out.then hx)
  have X5 := hid (H5.out.then hx)
  have HKN2 := hid hk2
  clear hx hk2 RL RM R5 H5 HK1 HK2
  cases ok1
  · cases ok2
    all_goals (
      go_wp2
      go_returns
      exact ⟨rfl, Xp.out⟩)
  cases ok2
  · go_wp2
    go_returns
    exact ⟨rfl, Xp.out⟩
  obtain ⟨hN1, hM1, r1, r2, hc1⟩ := HKN1.out rfl
  obtain ⟨hN2, hM2, r3, r4, hc2⟩ := HKN2.out rfl
  rw [hN1, hM1, hN2, hM2]
  have hmore := HMORE.out hc1 hc2
  have HP1 := hid (HPR.out (cont L) A1 B1 c1 c1' w5 Xp.out (r1.keep X5.out) (r2.keep X5.out))
  have HP2 := hid (fun wx (hx : Ext w5 wx) => HPR.out (cont (L ++ M)) A2 B2 c2 c2' wx (Xp.out.then hx) (r3.keep hx) (r4.keep hx))
  clear hN1 hM1 hN2 hM2 r1 r2 r3 r4 hc1 hc2 HKN1 HKN2 HPR HMORE X5
  generalize Cnd.prn ks p (Cnd.knS (cont L) m) (Cnd.knF (cont L) m) = pr1 at *
  generalize Cnd.prn ks p (Cnd.knS (cont (L ++ M)) m) (Cnd.knF (cont (L ++ M)) m) = pr2 at *
  obtain ⟨x, ex⟩ := pr1
  obtain ⟨y, ey⟩ := pr2
  simp only at hmore
  have q1 : ((ex : Int) == (ey : Int)) = true := by
    rw [beq_iff_eq]
    rcases hmore with ⟨_, h1, h2⟩ | ⟨h1, h2, _⟩
    · simp only [Prod.mk.injEq] at h1 h2; omega
    · omega
  have q5 : (bits .andNot .i64 (x : Int) (y : Int) == 0) = true := by
    rcases hmore with ⟨_, h1, h2⟩ | ⟨_, _, h3, h4, h5⟩
    · simp only [Prod.mk.injEq] at h1 h2
      rw [h1.1, h2.1]; decide +kernel
    · exact Cnd.sub_bits h3 h4 h5
  rcases hmore with ⟨hc, h1, h2⟩ | ⟨h1, h2, _⟩
  · simp only [Prod.mk.injEq] at h1 h2
    have q2 : ((ex : Int) == 0) = false := by rw [beq_eq_false_iff_ne]; omega
    have q3 : ((x : Int) == 0) = true := by rw [beq_iff_eq]; omega
    have q4 : ((y : Int) == 0) = true := by rw [beq_iff_eq]; omega
    clear hc h1 h2
    go_wp2_with fail
    refine Calls.mono HP1.out ?_
    rintro e w6 ⟨rfl, hx⟩
    replace Xp := hid (Xp.out.then hx)
    have X6 := hid hx
    clear hx
    go_wp2_with fail
    refine Calls.mono (HP2.out _ X6.out) ?_
    rintro e w7 ⟨rfl, hx⟩
    replace Xp := hid (Xp.out.then hx)
    clear hx
    go_wp2
    go_returns
    exact ⟨rfl, Xp.out⟩
  · have q2 : ((ex : Int) == 0) = true := by rw [beq_iff_eq]; omega
    clear h1 h2
    go_wp2_with fail
    refine Calls.mono HP1.out ?_
    rintro e w6 ⟨rfl, hx⟩
    replace Xp := hid (Xp.out.then hx)
    have X6 := hid hx
    clear hx
    go_wp2_with fail
    refine Calls.mono (HP2.out _ X6.out) ?_
    rintro e w7 ⟨rfl, hx⟩
    replace Xp := hid (Xp.out.then hx)
    clear hx
    go_wp2
    go_returns
    exact ⟨rfl, Xp.out⟩
end Go.Proofs.Ytpheegfanljeeaa
