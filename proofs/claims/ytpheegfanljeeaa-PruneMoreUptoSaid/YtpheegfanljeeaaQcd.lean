/- Conditions: the law PruneSound: walk (printed by gen_qcd.py). -/
import Derived.Test.YtpheegfanljeeaaQcc
import Derived.Test.YtpheegfanljeeaaQbd
import Derived.Test.YtpheegfanljeeaaOrw
import Derived.Test.YtpheegfanljeeaaOwf
import Derived.Test.YtpheegfanljeeaaCgp
namespace Hy
open Go Go.RowKit
theorem own_gr {base : Nat} {e : TypeId} {size : Nat} {v : Value} {n : Nat} {xs : List Value} {w w' : World} {row : Option Nat} (h : w.ownsRow base e size v n xs) (hg : w.grownBy w' row) (hne : v.ownBlock = none ∨ row ≠ v.ownBlock) : w'.ownsRow base e size v n xs := by
  refine ⟨h.1, ?_⟩
  rcases h.2 with h | ⟨b, cap, cur, hv, hb, hgg, r⟩
  · exact .inl h
  · refine .inr ⟨b, cap, cur, hv, hb, ?_, r⟩
    have hlt : b < w.heap.size := (Array.getElem?_eq_some_iff.1 hgg).1
    rw [hg.block b hlt (fun e => ?_)]
    · exact hgg
    · rcases hne with h1 | h1
      · rw [hv] at h1; simp [Value.ownBlock] at h1
      · exact h1 (by rw [hv]; simp [Value.ownBlock, e])
/-- the cells of rows, whatever these lie at -/
def cont (L : List Rw) : List (List Cel) := L.map Prod.snd
theorem cont_len (L : List Rw) : (cont L).length = L.length := by simp [cont]
theorem cont_get (L : List Rw) (i : Nat) (h : i < L.length) : (cont L)[i]'(by rw [cont_len]; exact h) = L[i].2 := by simp [cont]
theorem cls_toC (l : List Cel) : (l.map Cnd.toC).flatMap C.cells = cls l := by
  rw [List.flatMap_map]; rfl
end Hy
namespace Go.Proofs.Ytpheegfanljeeaa
open Go.RowKit Hy
theorem rowSt : RowT Try.prog 31 45 8 80 := RowT.mk' (z := .agg #[.int .i64 0, .int .i64 0, .int .i64 0, .int .u64 0, .string .empty, .int .i64 0, .int .u64 0, .string .empty]) Try.underlying31 (by kernel_rfl) rfl (by decide)
theorem rowFr : RowT Try.prog 32 48 4 32 := RowT.mk' (z := .agg #[.int .u64 0, .int .u64 0, .int .u64 0, .int .u64 0]) Try.underlying32 (by kernel_rfl) rfl (by decide)
set_option maxHeartbeats 12800000 in
set_option maxRecDepth 100000 in
theorem pruneSound_walk (ks : List Int) (p : List Cnd) (L : List Rw) (P K RA : Option Addr) (n pcap m kcap q qcap : Nat) (w : World) (hn : p.length = n) (hp : Rd w P (cns p)) (hpn : ∀ c ∈ p, c.2.2.2.1 < 18446744073709551616) (hnl : n ≤ 140737488355328) (hq : L.length = q) (hL : Rd w RA (rws' L)) (hql : q ≤ 1048576) (hok : ∀ x ∈ L, RwOk w x) (hcn : ∀ x ∈ L, ∀ c ∈ x.2, c.2.1 < 18446744073709551616) (hm : ks.length = m) (hk : Rd w K (i64s ks)) (hml : m ≤ 1048576) (hlb : ∀ x ∈ L, x.1.2.1 ≤ 140737488355328) :
    Calls Try.prog 6 #[.slice P n pcap, .slice K m kcap, .slice RA q qcap] w fun e w' => e = .returned (.bool true) ∧ Ext w w' := by
  obtain ⟨rows, hrows⟩ : ∃ rows, rows = cont L := ⟨_, rfl⟩
  have HROW := hid hrows
  have HRA := hid hL
  have HQL := hid hq
  have HOK := hid hok
  have HCN := hid hcn
  have HKL := hid hm
  have HKR := hid hk
  have HQB := hid hql
  have HMB := hid hml
  have hqI : (q : Int) ≤ 1048576 := by omega
  have hmI : (m : Int) ≤ 1048576 := by omega
  have HPR := hid (fun (S : List Sta) (Fs : List Bloom.F) (A B : Option Addr) (c1 c2 : Nat) wx (hx : Ext w wx) (h1 : S.length = m) (h2 : Rd wx A (sts S)) (h3 : Fs.length = m) (h4 : Rd wx B (frs Fs)) (h5 : ∀ f ∈ Fs, f.ok) => prune_any ks p S Fs P K A B n pcap m kcap m c1 m c2 wx hn (hp.keep hx) hpn hnl hm (hk.keep hx) (by omega) h1 h2 (by omega) h3 h4 (by omega) h5)
  have HAS := hid (fun (x : Rw) (h1 : x ∈ L) wx (hx : Ext w wx) => ask_any ks p x.2 P K x.1.1 n pcap m kcap x.1.2.1 x.1.2.2 wx hn (hp.keep hx) hnl hm (hk.keep hx) (by omega) (hok x h1).1 ((hok x h1).2.2.2.keep hx) (hlb x h1) (hok x h1).2.1)
  clear hrows hL hq hok hcn hm hk hn hp hpn hnl hlb hql hml
  go_enter Try.func6, Try.ntmps6
  go_wp2_with fail
  refine Calls.mono (predBegun_any _) ?_
  rintro e w1 ⟨rfl, hx⟩
  have Xp := hid hx
  clear hx
  go_wp2
  go_loopw [7, 8, 9, 10, 11, 12] (fun x7 x8 x9 _ _ _ wr => ∃ k : Nat, k ≤ m ∧ x9 = .int .i64 k ∧ Hid (wr.ownsRow w.heap.size 45 8 x7 k (sts (Cnd.knS rows k))) ∧ Hid (wr.ownsRow w.heap.size 48 4 x8 k (frs (Cnd.knF rows k))) ∧ Hid (Ext w wr) ∧ Hid (∀ c (hc : c < ks.length), c < k → Cel.cchk ks[c] (Cnd.colm rows c) = 0) ∧ Hid (0 < k → ∀ r ∈ rows, r.length = ks.length)) (fun _ _ x9 _ _ _ _ => m - (intOf x9).toNat)
  case atStart => exact ⟨0, Nat.zero_le _, rfl, hid (World.ownsRow_nil _ _ _ _), hid (World.ownsRow_nil _ _ _ _), Xp, hid (fun c hc h => absurd h (Nat.not_lt_zero _)), hid (fun h => absurd h (Nat.lt_irrefl _))⟩
  case round =>
    obtain ⟨k, hk, rfl, HS, HF, HX, HCO, HLN⟩ := hrel
    by_cases hlt : k < m
    · have hkI : (k : Int) < (m : Int) := by omega
      have HKK := hid (show k < ks.length by rw [HKL.out]; exact hlt)
      obtain ⟨B7, c7, hB7, _⟩ := Rd.owned HS.out
      obtain ⟨B8, c8, hB8, _⟩ := Rd.owned HF.out
      subst hB7
      subst hB8
      have HLT := hid hlt
      clear hlt
      go_wp2
      go_loopw [10, 11] (fun x10 x11 wr => ∃ i : Nat, i ≤ q ∧ x11 = .int .i64 i ∧ Hid (wr.ownsRow w.heap.size 37 3 x10 i (cls ((Cnd.colm rows k).take i))) ∧ Hid (wr.ownsRow w.heap.size 45 8 (.slice B7 k c7) k (sts (Cnd.knS rows k))) ∧ Hid (wr.ownsRow w.heap.size 48 4 (.slice B8 k c8) k (frs (Cnd.knF rows k))) ∧ Hid (Ext w wr) ∧ Hid (∀ j (hj : j < rows.length), j < i → rows[j].length = ks.length)) (fun _ x11 _ => q - (intOf x11).toNat)
      case atStart => exact ⟨0, Nat.zero_le _, rfl, hid (World.ownsRow_nil _ _ _ _), HS, HF, HX, hid (fun j hj h => absurd h (Nat.not_lt_zero _))⟩
      case round =>
        obtain ⟨i, hi, rfl, HL2, HS2, HF2, HX2, HR2⟩ := hrel
        by_cases hlti : i < q
        · have hiI : (i : Int) < (q : Int) := by omega
          have hiL : i < L.length := by rw [HQL.out]; exact hlti
          obtain ⟨b1, o1, e1, l1, cc1⟩ := HRA.out.rows i hiL
          have d0 := (HX2.out.cell (p := ⟨b1, o1 + i, none⟩) l1).trans (cc1 i hiL)
          have hok := HOK.out _ (List.getElem_mem hiL)
          have hct := Cnd.colm_take rows k i (by rw [HROW.out, cont_len]; exact hiL)
          have hgt : rows[i]'(by rw [HROW.out, cont_len]; exact hiL) = L[i].2 := by simp only [HROW.out]; exact cont_get L i hiL
          rw [hgt] at hct
          have HGT := hid (fun (h : L[i].2.length = ks.length) => (show ∀ j (hj : j < rows.length), j < i + 1 → rows[j].length = ks.length from fun j hj hji => by
            by_cases hje : j = i
            · subst hje; rw [hgt]; exact h
            · exact HR2.out j hj (by omega)))
          clear cc1 hgt
          generalize L[i] = x at *
          obtain ⟨⟨A, nn, cp⟩, l⟩ := x
          obtain ⟨hk1, hk2, hk3, hk4⟩ := hok
          simp only at d0 hk1 hk2 hk3 hk4 hct
          have hRA := hid e1
          obtain ⟨B10, c10, hB10, _⟩ := Rd.owned HL2.out
          subst hB10
          clear hiL
          by_cases hnm : nn = m
          · subst hnm
            have hkl : k < l.length := by rw [hk1]; exact HLT.out
            obtain ⟨b2, o2, rfl, l2, cc2⟩ := hk4.cels k hkl
            obtain ⟨g0, g1, g2⟩ := cc2 k hkl
            have r0 := (HX2.out.cell (p := ⟨b2, o2 + k * 3, none⟩) l2).trans g0
            have r1 := (HX2.out.cell (p := ⟨b2, o2 + k * 3 + 1, none⟩) l2).trans g1
            have r2 := (HX2.out.cell (p := ⟨b2, o2 + k * 3 + 2, none⟩) l2).trans g2
            have hx : l.getD k Cnd.O = l[k] := by rw [List.getD_eq_getElem?_getD, List.getElem?_eq_getElem hkl]; rfl
            rw [hx] at hct
            have HR3 := hid (HGT.out (by rw [hk1, HKL.out]))
            clear g0 g1 g2 cc2 hx hk1 hk2 hk3 hk4
            generalize l[k] = x at *
            clear hkl
            obtain ⟨k', n', s'⟩ := x
            simp only at r0 r1 r2
            have HCT := hid hct
            have NS := hid ((own_ne HS2.out HL2.out (by decide)).imp_right Ne.symm)
            have NF := hid ((own_ne HF2.out HL2.out (by decide)).imp_right Ne.symm)
            have HSZ := hid HX2.out.size
            clear hct HGT
            have e1 := hRA.out
            subst e1
            go_wp2_with (at_builtin; go_loud (refine wpList_app rfl (.tmp 41) (.tmp 49) rowCl rfl _ i (cls ((Cnd.colm rows k).take i)) rfl (own_ext HL2.out ((ext_refl _).new _)) _ 1 (cls [(k', n', s')]) rfl (Src.rd Try.underlying24 _ 1 1 _ rfl (rd_lit rfl rfl) (cls_one _) (fun h => by cases h)) (by have := HQB.out; unfold maxLen; omega) (by have := HQB.out; omega) (by have := HSZ.out; simp; omega) ?_; intro v3 w3 hown3 hg3 ha3 hb3; have O3 := hid hown3; have S3 := hid (own_gr (own_ext HS2.out ((ext_refl _).new _)) hg3 NS.out); have F3 := hid (own_gr (own_ext HF2.out ((ext_refl _).new _)) hg3 NF.out); have X3 := hid (Below.trans (HX2.out.new _) hb3); clear hown3 hg3 ha3 hb3))
            go_roundw
            case rel => exact ⟨i + 1, by omega, by go_num, hid (by rw [HCT.out, cls_app]; exact O3.out), S3, F3, X3, HR3⟩
            case measure => simp [intOf]; omega
          · have hnI : ((nn : Int) != (m : Int)) = true := by simp; omega
            clear hk1 hk2 hk3 hk4 hct HGT hnm
            have e1 := hRA.out
            subst e1
            go_wp2
            go_returns
            exact ⟨rfl, HX2.out⟩
        · obtain rfl : i = q := by omega
          have hti : (Cnd.colm rows k).take i = Cnd.colm rows k := List.take_of_length_le (by rw [Cnd.colm_len, HROW.out, cont_len, HQL.out]; exact Nat.le_refl _)
          rw [hti] at HL2
          have HRL := hid (show ∀ r ∈ rows, r.length = ks.length from fun r hr => by
            obtain ⟨j, hj, rfl⟩ := List.getElem_of_mem hr
            exact HR2.out j hj (by rw [← HQL.out, ← cont_len, ← HROW.out]; exact hj))
          obtain ⟨B10, c10, hB10, hrd, _⟩ := Rd.owned HL2.out
          subst hB10
          obtain ⟨b1, o1, e1, l1, cc1⟩ := HKR.out.ints k HKK.out
          have d0 := (HX2.out.cell (p := ⟨b1, o1 + k, none⟩) l1).trans (cc1 k HKK.out)
          have HOF := hid (of_any (ks[k]'HKK.out) (Cnd.colm rows k) B10 i c10 _ (by rw [Cnd.colm_len, HROW.out, cont_len]; exact HQL.out) hrd (by have := HQB.out; omega))
          have HCV := hid (fun (h : Cel.cchk (ks[k]'HKK.out) (Cnd.colm rows k) = 0) => (show ∀ c (hc : c < ks.length), c < k + 1 → Cel.cchk ks[c] (Cnd.colm rows c) = 0 from fun c hc hck => by
            by_cases hce : c = k
            · subst hce; exact h
            · exact HCO.out c hc (by omega)))
          have HBO := hid (fun (h : Cel.cchk (ks[k]'HKK.out) (Cnd.colm rows k) = 0) wx (hx : Rd wx B10 (cls (Cnd.colm rows k))) => of_f_any ((Cnd.colm rows k).map Cnd.toC) i B10 c10 wx (by rw [cls_toC]; exact hx) (fun y hy => by
            obtain ⟨z, hz, rfl⟩ := List.mem_map.1 hy
            obtain ⟨r, hr, rfl⟩ := List.mem_map.1 hz
            refine ⟨?_, Nat.le_trans (Cnd.alone_size16 ((Cnd.cchk_zero h).2.2 _ hz)) (by decide)⟩
            show (r.getD k Cnd.O).2.1 < _
            rw [HROW.out] at hr
            obtain ⟨x, hx, rfl⟩ := List.mem_map.1 hr
            rw [List.getD_eq_getElem?_getD]
            cases hg : x.2[k]? with
            | none => show 0 < _; decide
            | some c => exact HCN.out x hx c (List.mem_of_getElem? hg)) (by rw [List.length_map, Cnd.colm_len, HROW.out, cont_len]; exact HQL.out) (by have := HQB.out; omega))
          clear hti hrd cc1
          generalize hkd : ks[k]'HKK.out = kd at *
          have hE7 := Cel.cchk_le kd (Cnd.colm rows k)
          obtain ⟨E, hE⟩ : ∃ E, E = Cel.cchk kd (Cnd.colm rows k) := ⟨_, rfl⟩
          rw [← hE] at HOF HCV HBO hE7
          have e1' := hid e1
          clear hE hkd e1
          have e1 := e1'.out
          subst e1
          by_cases hE0 : E = 0
          · subst hE0
            rw [if_pos rfl] at HOF
            have HKS := hid (Cnd.knS_succ rows k)
            have HKF := hid (Cnd.knF_succ rows k)
            have HBV := hid (HBO.out rfl)
            have HC3 := hid (HCV.out rfl)
            obtain ⟨SV, hSV⟩ : ∃ s, s = Cel.rawS (Cnd.colm rows k) := ⟨_, rfl⟩
            rw [← hSV] at HOF HKS
            obtain ⟨FV, hFV⟩ : ∃ f, f = Bloom.of Bloom.none ((Cnd.colm rows k).map Cnd.toC) := ⟨_, rfl⟩
            rw [← hFV] at HBV HKF
            clear hSV hFV HBO HCV hE7
            obtain ⟨a1, a2, ⟨a3, a4, a5⟩, a6, a7, a8⟩ := SV
            have HF0 : Hid (four4 FV = [.int .u64 (FV 0 : Nat), .int .u64 (FV 1 : Nat), .int .u64 (FV 2 : Nat), .int .u64 (FV 3 : Nat)]) := hid rfl
            generalize hf0 : FV 0 = f0 at *
            generalize hf1 : FV 1 = f1 at *
            generalize hf2 : FV 2 = f2 at *
            generalize hf3 : FV 3 = f3 at *
            have HFF := hid (show frs [FV] = [.int .u64 (f0 : Int), .int .u64 (f1 : Int), .int .u64 (f2 : Int), .int .u64 (f3 : Int)] by simp only [frs, List.flatMap_cons, List.flatMap_nil, List.append_nil]; exact HF0.out)
            clear hf0 hf1 hf2 hf3
            go_wp2_with fail
            refine Calls.mono HOF.out ?_
            rintro e w5 ⟨rfl, hx⟩
            replace HX2 := hid (HX2.out.then hx)
            replace HS2 := hid (own_ext HS2.out hx)
            replace HF2 := hid (own_ext HF2.out hx)
            replace HL2 := hid (own_ext HL2.out hx)
            have NS := hid ((own_ne HF2.out HS2.out (by decide)).imp_right Ne.symm)
            have NL := hid ((own_ne HL2.out HS2.out (by decide)).imp_right Ne.symm)
            have NF := hid ((own_ne HS2.out HF2.out (by decide)).imp_right Ne.symm)
            have HSZ := hid HX2.out.size
            clear hx d0
            go_wp2_with (first
              | (at_builtin; refine wpList_app rfl (.tmp 62) (.tmp 64) rowSt rfl _ k (sts (Cnd.knS rows k)) rfl (own_ext HS2.out (((ext_refl _).new _).new _)) _ 1 (sts [(a1, a2, (a3, a4, a5), a6, a7, a8)]) rfl (Src.rd Try.underlying31 _ 1 1 _ rfl (rd_lit (by simp) rfl) (sts_one _) (fun h => by cases h)) (by have := HMB.out; unfold maxLen; omega) (by have := HMB.out; omega) (by have := HSZ.out; simp; omega) ?_; intro v6 w6 hown6 hg6 ha6 hb6; have S6 := hid hown6; have F6 := hid (own_gr (own_ext HF2.out (((ext_refl _).new _).new _)) hg6 NS.out); have L6 := hid (own_gr (own_ext HL2.out (((ext_refl _).new _).new _)) hg6 NL.out); have X6 := hid (Below.trans ((HX2.out.new _).new _) hb6); obtain ⟨C7, k7, hC7, _⟩ := Rd.owned S6.out; subst hC7; clear hown6 hg6 ha6 hb6)
              | (go_at_call 23; go_loud (refine Calls.mono (HBV.out _ (by obtain ⟨_, _, h1, h2, _⟩ := Rd.owned L6.out; injection h1 with h1; subst h1; exact h2)) ?_; rintro e w7 ⟨rfl, hx⟩; have S7 := hid (own_ext S6.out hx); have F7 := hid (own_ext F6.out hx); have X7 := hid (Ext.then X6.out hx); have NF7 := hid ((own_ne S7.out F7.out (by decide)).imp_right Ne.symm); clear hx))
              | (at_builtin; refine wpList_app rfl (.tmp 66) (.tmp 69) rowFr rfl _ k (frs (Cnd.knF rows k)) rfl (own_ext F7.out ((ext_refl _).new _)) _ 1 (frs [FV]) rfl (Src.rd Try.underlying32 _ 1 1 _ rfl (rd_lit rfl HFF.out.symm) (frs_one _) (fun h => by cases h)) (by have := HMB.out; unfold maxLen; omega) (by have := HMB.out; omega) (by have := X7.out.size; simp; omega) ?_; intro v8 w8 hown8 hg8 ha8 hb8; have F8 := hid hown8; have S8 := hid (own_gr (own_ext S7.out ((ext_refl _).new _)) hg8 NF7.out); have X8 := hid (Below.trans (Ext.new X7.out _) hb8); clear hown8 hg8 ha8 hb8))
            go_roundw
            case rel => exact ⟨k + 1, by have := HLT.out; omega, by go_num, hid (by rw [HKS.out, sts_app]; exact S8.out), hid (by rw [HKF.out, frs_app]; exact F8.out), X8, HC3, hid (fun _ => HRL.out)⟩
            case measure => simp [intOf]; have := HLT.out; omega
          · have e1 : ((E : Int) != 0) = true := by simp; omega
            rw [if_neg hE0] at HOF
            clear HBO HCV hE7 hE0
            go_wp2_with fail
            refine Calls.mono HOF.out ?_
            rintro e w5 ⟨rfl, hx⟩
            replace HX2 := hid (HX2.out.then hx)
            clear hx
            go_wp2
            go_returns
            exact ⟨rfl, HX2.out.new _⟩
    · obtain rfl : k = m := by omega
      clear hlt
      obtain ⟨B7, c7, hB7, hr7, _⟩ := Rd.owned HS.out
      obtain ⟨B8, c8, hB8, hr8, _⟩ := Rd.owned HF.out
      subst hB7
      subst hB8
      have HSND := hid (fun row (hr : row ∈ rows) => Cnd.sound (ks := ks) (p := p) (rows := rows) (fun h => HLN.out (by rw [← HKL.out]; exact h)) (fun c hc => HCO.out c hc (by rw [← HKL.out]; exact hc)) row hr)
      rw [HKL.out] at HSND
      have HPV := hid (HPR.out (Cnd.knS rows k) (Cnd.knF rows k) B7 B8 c7 c8 _ HX.out (Cnd.knS_len _ _) hr7 (Cnd.knF_len _ _) hr8 (fun f hf => by
        obtain ⟨c, _, rfl⟩ := List.mem_map.1 hf
        exact Bloom.of_ok Bloom.none_ok _))
      have hor := Cnd.prn_or ks p (Cnd.knS rows k) (Cnd.knF rows k)
      have hple := Cnd.prn_le ks p (Cnd.knS rows k) (Cnd.knF rows k)
      generalize Cnd.prn ks p (Cnd.knS rows k) (Cnd.knF rows k) = pr at *
      obtain ⟨sv, se⟩ := pr
      simp only at hor hple
      have hseI : (se : Int) ≤ 7 := by omega
      have HOR := hid hor
      clear hr7 hr8 HS HF hor hple
      go_wp2_with fail
      refine Calls.mono HPV.out ?_
      rintro e w5 ⟨rfl, hx⟩
      have X5 := hid (HX.out.then hx)
      clear hx
      go_wp2
      go_loopw [16, 17, 18] (fun c _ _ wr => ∃ i : Nat, i ≤ q ∧ c = .int .i64 i ∧ Hid (Ext w wr)) (fun c _ _ _ => q - (intOf c).toNat)
      case atStart => exact ⟨0, Nat.zero_le _, rfl, X5⟩
      case round =>
        obtain ⟨i, hi, rfl, XI⟩ := hrel
        by_cases hlti : i < q
        · have hiI : (i : Int) < (q : Int) := by omega
          have hiL : i < L.length := by rw [HQL.out]; exact hlti
          obtain ⟨b1, o1, e1, l1, cc1⟩ := HRA.out.rows i hiL
          have d0 := (XI.out.cell (p := ⟨b1, o1 + i, none⟩) l1).trans (cc1 i hiL)
          have HA := hid (HAS.out _ (List.getElem_mem hiL) _ XI.out)
          have hsd := HSND.out L[i].2 (by rw [HROW.out]; exact List.mem_map.2 ⟨_, List.getElem_mem hiL, rfl⟩)
          have hale := Cnd.ask_le ks p L[i].2
          clear cc1
          generalize Cnd.ask ks p L[i].2 = av at *
          generalize L[i] = x at *
          obtain ⟨⟨A, nn, cp⟩, l⟩ := x
          obtain ⟨tv, te⟩ := av
          simp only at d0 hsd hale
          have e1' := hid e1
          clear hiL e1
          have e1 := e1'.out
          subst e1
          rcases hsd with ⟨hc, h1, h2⟩ | ⟨h1, h2, h3, h4, h5⟩
          · simp only [Prod.mk.injEq] at h1 h2
            have q1 : ((se : Int) == 0) = false := by rw [beq_eq_false_iff_ne]; omega
            have q2 : ((te : Int) == 0) = false := by rw [beq_eq_false_iff_ne]; omega
            clear hc hale h1 h2
            go_wp2_with fail
            refine Calls.mono HA.out ?_
            rintro e w6 ⟨rfl, hx⟩
            replace XI := hid (XI.out.then hx)
            clear hx
            go_wp2
            go_roundw
            case rel => exact ⟨i + 1, by omega, by go_num, XI⟩
            case measure => simp [intOf]; omega
          · have q1 : ((se : Int) == 0) = true := by rw [beq_iff_eq]; omega
            have q2 : ((te : Int) == 0) = true := by rw [beq_iff_eq]; omega
            clear h1 h2
            have HM := hid (fun wx => hasMay_any sv tv h4 (Nat.lt_succ_of_le h3) wx)
            rw [h5] at HM
            clear h3 h4 h5 hale
            go_wp2_with fail
            refine Calls.mono HA.out ?_
            rintro e w6 ⟨rfl, hx⟩
            replace XI := hid (XI.out.then hx)
            clear hx
            go_wp2_with (go_at_call 24; refine (HM.out _).mono ?_; rintro e w7 ⟨rfl, rfl⟩)
            go_roundw
            case rel => exact ⟨i + 1, by omega, by go_num, XI⟩
            case measure => simp [intOf]; omega
        · obtain rfl : i = q := by omega
          have hor := HOR.out
          clear hlti
          by_cases hse : se = 0
          · subst hse
            clear hor
            go_wp2
            go_returns
            exact ⟨rfl, XI.out⟩
          · have hsv : sv = 0 := by omega
            subst hsv
            have q1 : ((se : Int) == 0) = false := by rw [beq_eq_false_iff_ne]; omega
            clear hor hse
            go_wp2
            go_returns
            exact ⟨rfl, XI.out⟩
end Go.Proofs.Ytpheegfanljeeaa
