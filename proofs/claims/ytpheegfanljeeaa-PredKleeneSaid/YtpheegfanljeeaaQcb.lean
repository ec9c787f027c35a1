/- Conditions: the law PredKleene: walk (printed by gen_qcb.py). -/
import Derived.Test.YtpheegfanljeeaaQca
import Derived.Test.YtpheegfanljeeaaQbd
namespace Go.Proofs.Ytpheegfanljeeaa
open Go.RowKit Hy
theorem rowCnd : RowT Try.prog 22 39 5 48 := RowT.mk' (z := .agg #[.int .i64 0, .int .i64 0, .int .i64 0, .int .u64 0, .string .empty]) Try.underlying22 (by kernel_rfl) rfl (by decide)
set_option maxHeartbeats 12800000 in
set_option maxRecDepth 100000 in
theorem predKleene_walk (ks : List Int) (p q : List Cnd) (row : List Cel) (S : List Sta) (Fs : List Bloom.F) (P Q K R SA FA : Option Addr) (n pcap m qcap kn kcap r rcap sn scap fn fcap : Nat) (w : World) (hn : p.length = n) (hp : Rd w P (cns p)) (hP0 : P = none → n = 0) (hpn : ∀ c ∈ p, c.2.2.2.1 < 18446744073709551616) (hnl : n ≤ 140737488355328) (hm : q.length = m) (hq : Rd w Q (cns q)) (hQ0 : Q = none → m = 0) (hqn : ∀ c ∈ q, c.2.2.2.1 < 18446744073709551616) (hml : m ≤ 140737488355328) (hkl : ks.length = kn) (hk : Rd w K (i64s ks)) (hknl : kn ≤ 140737488355328) (hrl : row.length = r) (hrr : Rd w R (cls row)) (hrll : r ≤ 140737488355328) (hrc : r ≤ rcap) (hsl : S.length = sn) (hss : Rd w SA (sts S)) (hsnl : sn ≤ 140737488355328) (hfl : Fs.length = fn) (hff : Rd w FA (frs Fs)) (hfnl : fn ≤ 140737488355328) (hok : ∀ f ∈ Fs, f.ok) :
    Calls Try.prog 5 #[.slice P n pcap, .slice Q m qcap, .slice K kn kcap, .slice R r rcap, .slice SA sn scap, .slice FA fn fcap] w fun e w' => e = .returned (.bool true) ∧ Ext w w' := by
  have HCP := hid (fun wx (hx : Ext w wx) => pCheck_any ks p P K n pcap kn kcap wx hn (hp.keep hx) hnl hkl (hk.keep hx) hknl)
  have HCQ := hid (fun wx (hx : Ext w wx) => pCheck_any ks q Q K m qcap kn kcap wx hm (hq.keep hx) hml hkl (hk.keep hx) hknl)
  have hc1 := Cnd.chk_le ks p
  have hc2 := Cnd.chk_le ks q
  by_cases hcp : Cnd.chk ks p = 0
  rotate_left
  · obtain ⟨E, hE⟩ : ∃ E, E = Cnd.chk ks p := ⟨_, rfl⟩
    rw [← hE] at HCP hcp
    have e1 : ((E : Int) != 0) = true := by simp; omega
    clear hn hp hP0 hpn hnl hm hq hQ0 hqn hml hkl hk hknl hrl hrr hrll hrc hsl hss hsnl hfl hff hfnl hok hc1 hc2 hcp hE HCQ
    go_enter Try.func5, Try.ntmps5
    go_wp2_with fail
    refine Calls.mono (predBegun_any _) ?_
    rintro e w1 ⟨rfl, hx⟩
    have Xp := hid hx
    clear hx
    go_wp2_with fail
    refine Calls.mono (HCP.out _ Xp.out) ?_
    rintro e w2 ⟨rfl, hx⟩
    replace Xp := hid (Xp.out.then hx)
    clear hx
    go_wp2
    go_returns
    exact ⟨rfl, Xp.out⟩
  by_cases hcq : Cnd.chk ks q = 0
  rotate_left
  · obtain ⟨E, hE⟩ : ∃ E, E = Cnd.chk ks q := ⟨_, rfl⟩
    rw [← hE] at HCQ hcq
    rw [hcp] at HCP
    have e1 : ((E : Int) != 0) = true := by simp; omega
    clear hn hp hP0 hpn hnl hm hq hQ0 hqn hml hkl hk hknl hrl hrr hrll hrc hsl hss hsnl hfl hff hfnl hok hc1 hc2 hcp hcq hE
    go_enter Try.func5, Try.ntmps5
    go_wp2_with fail
    refine Calls.mono (predBegun_any _) ?_
    rintro e w1 ⟨rfl, hx⟩
    have Xp := hid hx
    clear hx
    go_wp2_with fail
    refine Calls.mono (HCP.out _ Xp.out) ?_
    rintro e w2 ⟨rfl, hx⟩
    replace Xp := hid (Xp.out.then hx)
    clear hx
    go_wp2_with fail
    refine Calls.mono (HCQ.out _ Xp.out) ?_
    rintro e w3 ⟨rfl, hx⟩
    replace Xp := hid (Xp.out.then hx)
    clear hx
    go_wp2
    go_returns
    exact ⟨rfl, Xp.out⟩
  have h16 : n ≤ 16 := by obtain ⟨_, _, _, h⟩ := Cnd.right_tree hcp; omega
  have h16' : m ≤ 16 := by obtain ⟨_, _, _, h⟩ := Cnd.right_tree hcq; omega
  rw [hcp] at HCP
  rw [hcq] at HCQ
  by_cases h13 : 13 < n + m
  · have hI : (13 : Int) < (n : Int) + (m : Int) := by omega
    have hnI : (n : Int) ≤ 16 := by omega
    have hmI : (m : Int) ≤ 16 := by omega
    clear hn hp hP0 hpn hnl hm hq hQ0 hqn hml hkl hk hknl hrl hrr hrll hrc hsl hss hsnl hfl hff hfnl hok hc1 hc2 hcp hcq h16 h16' h13
    go_enter Try.func5, Try.ntmps5
    go_wp2_with fail
    refine Calls.mono (predBegun_any _) ?_
    rintro e w1 ⟨rfl, hx⟩
    have Xp := hid hx
    clear hx
    go_wp2_with fail
    refine Calls.mono (HCP.out _ Xp.out) ?_
    rintro e w2 ⟨rfl, hx⟩
    replace Xp := hid (Xp.out.then hx)
    clear hx
    go_wp2_with fail
    refine Calls.mono (HCQ.out _ Xp.out) ?_
    rintro e w3 ⟨rfl, hx⟩
    replace Xp := hid (Xp.out.then hx)
    clear hx
    go_wp2
    go_returns
    exact ⟨rfl, Xp.out⟩
  have hI : (n : Int) + (m : Int) ≤ 13 := by omega
  have hnI : (n : Int) ≤ 16 := by omega
  have hmI : (m : Int) ≤ 16 := by omega
  have HB := hid (show n + m ≤ 13 by omega)
  obtain ⟨hm5, hm6, hmt⟩ := Cnd.morgan hcp hcq (by omega)
  have HPN := hid hP0
  have HQN := hid hQ0
  have RP := hid hp
  have RQ := hid hq
  have HPL := hid hn
  have HQL := hid hm
  have HASK := hid (fun (l : List Cnd) (A : Option Addr) (N c : Nat) wx (hx : Ext w wx) (h1 : l.length = N) (h2 : Rd wx A (cns l)) (h3 : N ≤ 140737488355328) => ask_any ks l row A K R N c kn kcap r rcap wx h1 h2 h3 hkl (hk.keep hx) hknl hrl (hrr.keep hx) hrll hrc)
  have HPRN := hid (fun (l : List Cnd) (A : Option Addr) (N c : Nat) wx (hx : Ext w wx) (h1 : l.length = N) (h2 : Rd wx A (cns l)) (h3 : N ≤ 140737488355328) (h4 : ∀ c ∈ l, c.2.2.2.1 < 18446744073709551616) => prune_any ks l S Fs A K SA FA N c kn kcap sn scap fn fcap wx h1 h2 h4 h3 hkl (hk.keep hx) hknl hsl (hss.keep hx) hsnl hfl (hff.keep hx) hfnl hok)
  have HPQ := hid (show ∀ c ∈ p ++ q, c.2.2.2.1 < 18446744073709551616 from fun c hc => by
    rcases List.mem_append.1 hc with h | h
    · exact hpn c h
    · exact hqn c h)
  have HND := hid (show ∀ op, (Cnd.nd op).2.2.2.1 < 18446744073709551616 from fun op => by show 0 < _; decide)
  have HM5 := hid hm5
  have HM6 := hid hm6
  have HMT := hid hmt
  clear hn hp hP0 hpn hnl hm hq hQ0 hqn hml hkl hk hknl hrl hrr hrll hrc hsl hss hsnl hfl hff hfnl hok hc1 hc2 hcp hcq h16 h16' h13 hm5 hm6 hmt
  go_enter Try.func5, Try.ntmps5
  go_wp2_with fail
  refine Calls.mono (predBegun_any _) ?_
  rintro e w1 ⟨rfl, hx⟩
  have Xp := hid hx
  clear hx
  go_wp2_with fail
  refine Calls.mono (HCP.out _ Xp.out) ?_
  rintro e w2 ⟨rfl, hx⟩
  replace Xp := hid (Xp.out.then hx)
  clear hx
  go_wp2_with fail
  refine Calls.mono (HCQ.out _ Xp.out) ?_
  rintro e w3 ⟨rfl, hx⟩
  replace Xp := hid (Xp.out.then hx)
  clear hx
  replace RP := hid (RP.out.keep Xp.out)
  replace RQ := hid (RQ.out.keep Xp.out)
  clear HCP HCQ
  go_wp2_with (first
    | (at_builtin; have OC := hid (own_new (w := w3) (e := 39) (size := 5) (base := w3.heap.size) (n := 0) (C := #[]) (g := w3.heap.size) rfl rfl (Nat.le_refl _) (by decide)); have YC := hid ((ext_refl w3).new (.cells #[] 39)); refine wpList_app rfl (.tmp 45) (.tmp 46) rowCnd rfl _ (0) ((#[] : Array Value).toList) rfl OC.out _ n (cns p) rfl (Src.rd Try.underlying22 _ _ _ _ (by rw [cns_len, HPL.out]) (RP.out.keep YC.out) (cns_one _) HPN.out) (by have := HB.out; unfold maxLen; omega) (by have := HB.out; omega) (by have := YC.out.size; first | exact this | (simp at this ⊢; omega)) ?_; intro vv w4 hown hg ha hb; replace OC := hid hown; replace YC := hid (YC.out.trans hb); clear hown hg ha hb)
    | (at_builtin; refine wpList_app rfl (.tmp 47) (.tmp 48) rowCnd rfl _ (0 + n) ((#[] : Array Value).toList ++ cns p) rfl OC.out _ m (cns q) rfl (Src.rd Try.underlying22 _ _ _ _ (by rw [cns_len, HQL.out]) (RQ.out.keep YC.out) (cns_one _) HQN.out) (by have := HB.out; unfold maxLen; omega) (by have := HB.out; omega) (by have := YC.out.size; first | exact this | (simp at this ⊢; omega)) ?_; intro vv w5 hown hg ha hb; replace OC := hid hown; replace YC := hid (YC.out.trans hb); clear hown hg ha hb; obtain ⟨B13, c13, hvv, hrd, hnn, _⟩ := Rd.owned OC.out; subst hvv; obtain ⟨N13, hN⟩ : ∃ N, N = 0 + n + m := ⟨_, rfl⟩; rw [← hN] at hnn ⊢; have HN13 := hid hN; have HZ13 := hid hnn; have R13 := hid (show Rd w5 B13 (cns (p ++ q)) by rw [show cns (p ++ q) = (#[] : Array Value).toList ++ cns p ++ cns q from (by simp only [cns_app, List.append_assoc]; rfl)]; exact hrd); replace Xp := hid (Xp.out.then YC.out); replace RP := hid (RP.out.keep YC.out); replace RQ := hid (RQ.out.keep YC.out); clear hN hnn hrd OC YC; replace HB := hid (show n + m ≤ 13 ∧ N13 ≤ 13 from ⟨HB.out, by have := HB.out; have := HN13.out; omega⟩))
    | (at_builtin; have OC := hid (own_new (w := w5) (e := 39) (size := 5) (base := w5.heap.size) (n := 0) (C := #[]) (g := w5.heap.size) rfl rfl (Nat.le_refl _) (by decide)); have YC := hid ((ext_refl w5).new (.cells #[] 39)); refine wpList_app rfl (.tmp 50) (.tmp 51) rowCnd rfl _ (0) ((#[] : Array Value).toList) rfl OC.out _ n (cns p) rfl (Src.rd Try.underlying22 _ _ _ _ (by rw [cns_len, HPL.out]) (RP.out.keep YC.out) (cns_one _) HPN.out) (by have := HB.out; unfold maxLen; omega) (by have := HB.out; omega) (by have := YC.out.size; first | exact this | (simp at this ⊢; omega)) ?_; intro vv w6 hown hg ha hb; replace OC := hid hown; replace YC := hid (YC.out.trans hb); clear hown hg ha hb)
    | (at_builtin; replace OC := hid (own_ext OC.out ((ext_refl _).new (.cells #[.int .i64 7, .int .i64 0, .int .i64 0, .int .u64 0, .string .empty] 39))); replace YC := hid (Ext.new YC.out (.cells #[.int .i64 7, .int .i64 0, .int .i64 0, .int .u64 0, .string .empty] 39)); refine wpList_app rfl (.tmp 52) (.tmp 54) rowCnd rfl _ (0 + n) ((#[] : Array Value).toList ++ cns p) rfl OC.out _ 1 (cns [Cnd.nd 7]) rfl (Src.rd Try.underlying22 _ 1 1 _ rfl (rd_lit rfl rfl) (cns_one _) (fun h => by cases h)) (by have := HB.out; unfold maxLen; omega) (by have := HB.out; omega) (by have := YC.out.size; first | exact this | (simp at this ⊢; omega)) ?_; intro vv w7 hown hg ha hb; replace OC := hid hown; replace YC := hid (YC.out.trans hb); clear hown hg ha hb)
    | (at_builtin; refine wpList_app rfl (.tmp 55) (.tmp 56) rowCnd rfl _ (0 + n + 1) ((#[] : Array Value).toList ++ cns p ++ cns [Cnd.nd 7]) rfl OC.out _ m (cns q) rfl (Src.rd Try.underlying22 _ _ _ _ (by rw [cns_len, HQL.out]) (RQ.out.keep YC.out) (cns_one _) HQN.out) (by have := HB.out; unfold maxLen; omega) (by have := HB.out; omega) (by have := YC.out.size; first | exact this | (simp at this ⊢; omega)) ?_; intro vv w8 hown hg ha hb; replace OC := hid hown; replace YC := hid (YC.out.trans hb); clear hown hg ha hb)
    | (at_builtin; replace OC := hid (own_ext OC.out ((ext_refl _).new (.cells #[.int .i64 7, .int .i64 0, .int .i64 0, .int .u64 0, .string .empty] 39))); replace YC := hid (Ext.new YC.out (.cells #[.int .i64 7, .int .i64 0, .int .i64 0, .int .u64 0, .string .empty] 39)); refine wpList_app rfl (.tmp 57) (.tmp 59) rowCnd rfl _ (0 + n + 1 + m) ((#[] : Array Value).toList ++ cns p ++ cns [Cnd.nd 7] ++ cns q) rfl OC.out _ 1 (cns [Cnd.nd 7]) rfl (Src.rd Try.underlying22 _ 1 1 _ rfl (rd_lit rfl rfl) (cns_one _) (fun h => by cases h)) (by have := HB.out; unfold maxLen; omega) (by have := HB.out; omega) (by have := YC.out.size; first | exact this | (simp at this ⊢; omega)) ?_; intro vv w9 hown hg ha hb; replace OC := hid hown; replace YC := hid (YC.out.trans hb); clear hown hg ha hb; obtain ⟨B14, c14, hvv, hrd, hnn, _⟩ := Rd.owned OC.out; subst hvv; obtain ⟨N14, hN⟩ : ∃ N, N = 0 + n + 1 + m + 1 := ⟨_, rfl⟩; rw [← hN] at hnn ⊢; have HN14 := hid hN; have HZ14 := hid hnn; have R14 := hid (show Rd w9 B14 (cns (p ++ [Cnd.nd 7] ++ q ++ [Cnd.nd 7])) by rw [show cns (p ++ [Cnd.nd 7] ++ q ++ [Cnd.nd 7]) = (#[] : Array Value).toList ++ cns p ++ cns [Cnd.nd 7] ++ cns q ++ cns [Cnd.nd 7] from (by simp only [cns_app, List.append_assoc]; rfl)]; exact hrd); replace Xp := hid (Xp.out.then YC.out); replace RP := hid (RP.out.keep YC.out); replace RQ := hid (RQ.out.keep YC.out); replace R13 := hid (R13.out.keep YC.out); clear hN hnn hrd OC YC; replace HB := hid (show n + m ≤ 13 ∧ N13 ≤ 13 ∧ N14 ≤ 15 from ⟨HB.out.1, HB.out.2, by have := HB.out; have := HN14.out; omega⟩))
    | (at_builtin; have OC := hid (own_new (w := w9) (e := 39) (size := 5) (base := w9.heap.size) (n := 0) (C := #[]) (g := w9.heap.size) rfl rfl (Nat.le_refl _) (by decide)); have YC := hid ((ext_refl w9).new (.cells #[] 39)); refine wpList_app rfl (.tmp 61) (.tmp 62) rowCnd rfl _ (0) ((#[] : Array Value).toList) rfl OC.out _ N13 (cns (p ++ q)) rfl (Src.rd Try.underlying22 _ _ _ _ (by rw [cns_len, show (p ++ q).length = N13 by rw [HN13.out, List.length_append, HPL.out, HQL.out]; omega]) (R13.out.keep YC.out) (cns_one _) HZ13.out) (by have := HB.out; unfold maxLen; omega) (by have := HB.out; omega) (by have := YC.out.size; first | exact this | (simp at this ⊢; omega)) ?_; intro vv w10 hown hg ha hb; replace OC := hid hown; replace YC := hid (YC.out.trans hb); clear hown hg ha hb)
    | (at_builtin; replace OC := hid (own_ext OC.out ((ext_refl _).new (.cells #[.int .i64 5, .int .i64 0, .int .i64 0, .int .u64 0, .string .empty, .int .i64 7, .int .i64 0, .int .i64 0, .int .u64 0, .string .empty] 39))); replace YC := hid (Ext.new YC.out (.cells #[.int .i64 5, .int .i64 0, .int .i64 0, .int .u64 0, .string .empty, .int .i64 7, .int .i64 0, .int .i64 0, .int .u64 0, .string .empty] 39)); refine wpList_app rfl (.tmp 63) (.tmp 66) rowCnd rfl _ (0 + N13) ((#[] : Array Value).toList ++ cns (p ++ q)) rfl OC.out _ 2 (cns [Cnd.nd 5, Cnd.nd 7]) rfl (Src.rd Try.underlying22 _ 2 2 _ rfl (rd_lit rfl rfl) (cns_one _) (fun h => by cases h)) (by have := HB.out; unfold maxLen; omega) (by have := HB.out; omega) (by have := YC.out.size; first | exact this | (simp at this ⊢; omega)) ?_; intro vv w11 hown hg ha hb; replace OC := hid hown; replace YC := hid (YC.out.trans hb); clear hown hg ha hb; obtain ⟨B0, c0, hvv, hrd, hnn, _⟩ := Rd.owned OC.out; subst hvv; obtain ⟨N0, hN⟩ : ∃ N, N = 0 + N13 + 2 := ⟨_, rfl⟩; rw [← hN] at hnn ⊢; have HN0 := hid hN; have HZ0 := hid hnn; have R0 := hid (show Rd w11 B0 (cns ((p ++ q) ++ [Cnd.nd 5, Cnd.nd 7])) by rw [show cns ((p ++ q) ++ [Cnd.nd 5, Cnd.nd 7]) = (#[] : Array Value).toList ++ cns (p ++ q) ++ cns [Cnd.nd 5, Cnd.nd 7] from (by simp only [cns_app, List.append_assoc]; rfl)]; exact hrd); replace Xp := hid (Xp.out.then YC.out); replace RP := hid (RP.out.keep YC.out); replace RQ := hid (RQ.out.keep YC.out); replace R13 := hid (R13.out.keep YC.out); replace R14 := hid (R14.out.keep YC.out); clear hN hnn hrd OC YC)
    | (at_builtin; have OC := hid (own_new (w := w11) (e := 39) (size := 5) (base := w11.heap.size) (n := 0) (C := #[]) (g := w11.heap.size) rfl rfl (Nat.le_refl _) (by decide)); have YC := hid ((ext_refl w11).new (.cells #[] 39)); refine wpList_app rfl (.tmp 68) (.tmp 69) rowCnd rfl _ (0) ((#[] : Array Value).toList) rfl OC.out _ N14 (cns (p ++ [Cnd.nd 7] ++ q ++ [Cnd.nd 7])) rfl (Src.rd Try.underlying22 _ _ _ _ (by rw [cns_len, show (p ++ [Cnd.nd 7] ++ q ++ [Cnd.nd 7]).length = N14 by rw [HN14.out]; simp only [List.length_append, List.length_singleton, HPL.out, HQL.out]; omega]) (R14.out.keep YC.out) (cns_one _) HZ14.out) (by have := HB.out; unfold maxLen; omega) (by have := HB.out; omega) (by have := YC.out.size; first | exact this | (simp at this ⊢; omega)) ?_; intro vv w12 hown hg ha hb; replace OC := hid hown; replace YC := hid (YC.out.trans hb); clear hown hg ha hb)
    | (at_builtin; replace OC := hid (own_ext OC.out ((ext_refl _).new (.cells #[.int .i64 6, .int .i64 0, .int .i64 0, .int .u64 0, .string .empty] 39))); replace YC := hid (Ext.new YC.out (.cells #[.int .i64 6, .int .i64 0, .int .i64 0, .int .u64 0, .string .empty] 39)); refine wpList_app rfl (.tmp 70) (.tmp 72) rowCnd rfl _ (0 + N14) ((#[] : Array Value).toList ++ cns (p ++ [Cnd.nd 7] ++ q ++ [Cnd.nd 7])) rfl OC.out _ 1 (cns [Cnd.nd 6]) rfl (Src.rd Try.underlying22 _ 1 1 _ rfl (rd_lit rfl rfl) (cns_one _) (fun h => by cases h)) (by have := HB.out; unfold maxLen; omega) (by have := HB.out; omega) (by have := YC.out.size; first | exact this | (simp at this ⊢; omega)) ?_; intro vv w13 hown hg ha hb; replace OC := hid hown; replace YC := hid (YC.out.trans hb); clear hown hg ha hb; obtain ⟨B1, c1, hvv, hrd, hnn, _⟩ := Rd.owned OC.out; subst hvv; obtain ⟨N1, hN⟩ : ∃ N, N = 0 + N14 + 1 := ⟨_, rfl⟩; rw [← hN] at hnn ⊢; have HN1 := hid hN; have HZ1 := hid hnn; have R1 := hid (show Rd w13 B1 (cns ((p ++ [Cnd.nd 7] ++ q ++ [Cnd.nd 7]) ++ [Cnd.nd 6])) by rw [show cns ((p ++ [Cnd.nd 7] ++ q ++ [Cnd.nd 7]) ++ [Cnd.nd 6]) = (#[] : Array Value).toList ++ cns (p ++ [Cnd.nd 7] ++ q ++ [Cnd.nd 7]) ++ cns [Cnd.nd 6] from (by simp only [cns_app, List.append_assoc]; rfl)]; exact hrd); replace Xp := hid (Xp.out.then YC.out); replace RP := hid (RP.out.keep YC.out); replace RQ := hid (RQ.out.keep YC.out); replace R13 := hid (R13.out.keep YC.out); replace R14 := hid (R14.out.keep YC.out); replace R0 := hid (R0.out.keep YC.out); clear hN hnn hrd OC YC)
    | (at_builtin; have OC := hid (own_new (w := w13) (e := 39) (size := 5) (base := w13.heap.size) (n := 0) (C := #[]) (g := w13.heap.size) rfl rfl (Nat.le_refl _) (by decide)); have YC := hid ((ext_refl w13).new (.cells #[] 39)); refine wpList_app rfl (.tmp 74) (.tmp 75) rowCnd rfl _ (0) ((#[] : Array Value).toList) rfl OC.out _ N13 (cns (p ++ q)) rfl (Src.rd Try.underlying22 _ _ _ _ (by rw [cns_len, show (p ++ q).length = N13 by rw [HN13.out, List.length_append, HPL.out, HQL.out]; omega]) (R13.out.keep YC.out) (cns_one _) HZ13.out) (by have := HB.out; unfold maxLen; omega) (by have := HB.out; omega) (by have := YC.out.size; first | exact this | (simp at this ⊢; omega)) ?_; intro vv w14 hown hg ha hb; replace OC := hid hown; replace YC := hid (YC.out.trans hb); clear hown hg ha hb)
    | (at_builtin; replace OC := hid (own_ext OC.out ((ext_refl _).new (.cells #[.int .i64 6, .int .i64 0, .int .i64 0, .int .u64 0, .string .empty, .int .i64 7, .int .i64 0, .int .i64 0, .int .u64 0, .string .empty] 39))); replace YC := hid (Ext.new YC.out (.cells #[.int .i64 6, .int .i64 0, .int .i64 0, .int .u64 0, .string .empty, .int .i64 7, .int .i64 0, .int .i64 0, .int .u64 0, .string .empty] 39)); refine wpList_app rfl (.tmp 76) (.tmp 79) rowCnd rfl _ (0 + N13) ((#[] : Array Value).toList ++ cns (p ++ q)) rfl OC.out _ 2 (cns [Cnd.nd 6, Cnd.nd 7]) rfl (Src.rd Try.underlying22 _ 2 2 _ rfl (rd_lit rfl rfl) (cns_one _) (fun h => by cases h)) (by have := HB.out; unfold maxLen; omega) (by have := HB.out; omega) (by have := YC.out.size; first | exact this | (simp at this ⊢; omega)) ?_; intro vv w15 hown hg ha hb; replace OC := hid hown; replace YC := hid (YC.out.trans hb); clear hown hg ha hb; obtain ⟨B2, c2, hvv, hrd, hnn, _⟩ := Rd.owned OC.out; subst hvv; obtain ⟨N2, hN⟩ : ∃ N, N = 0 + N13 + 2 := ⟨_, rfl⟩; rw [← hN] at hnn ⊢; have HN2 := hid hN; have HZ2 := hid hnn; have R2 := hid (show Rd w15 B2 (cns ((p ++ q) ++ [Cnd.nd 6, Cnd.nd 7])) by rw [show cns ((p ++ q) ++ [Cnd.nd 6, Cnd.nd 7]) = (#[] : Array Value).toList ++ cns (p ++ q) ++ cns [Cnd.nd 6, Cnd.nd 7] from (by simp only [cns_app, List.append_assoc]; rfl)]; exact hrd); replace Xp := hid (Xp.out.then YC.out); replace RP := hid (RP.out.keep YC.out); replace RQ := hid (RQ.out.keep YC.out); replace R13 := hid (R13.out.keep YC.out); replace R14 := hid (R14.out.keep YC.out); replace R0 := hid (R0.out.keep YC.out); replace R1 := hid (R1.out.keep YC.out); clear hN hnn hrd OC YC)
    | (at_builtin; have OC := hid (own_new (w := w15) (e := 39) (size := 5) (base := w15.heap.size) (n := 0) (C := #[]) (g := w15.heap.size) rfl rfl (Nat.le_refl _) (by decide)); have YC := hid ((ext_refl w15).new (.cells #[] 39)); refine wpList_app rfl (.tmp 81) (.tmp 82) rowCnd rfl _ (0) ((#[] : Array Value).toList) rfl OC.out _ N14 (cns (p ++ [Cnd.nd 7] ++ q ++ [Cnd.nd 7])) rfl (Src.rd Try.underlying22 _ _ _ _ (by rw [cns_len, show (p ++ [Cnd.nd 7] ++ q ++ [Cnd.nd 7]).length = N14 by rw [HN14.out]; simp only [List.length_append, List.length_singleton, HPL.out, HQL.out]; omega]) (R14.out.keep YC.out) (cns_one _) HZ14.out) (by have := HB.out; unfold maxLen; omega) (by have := HB.out; omega) (by have := YC.out.size; first | exact this | (simp at this ⊢; omega)) ?_; intro vv w16 hown hg ha hb; replace OC := hid hown; replace YC := hid (YC.out.trans hb); clear hown hg ha hb)
    | (at_builtin; replace OC := hid (own_ext OC.out ((ext_refl _).new (.cells #[.int .i64 5, .int .i64 0, .int .i64 0, .int .u64 0, .string .empty] 39))); replace YC := hid (Ext.new YC.out (.cells #[.int .i64 5, .int .i64 0, .int .i64 0, .int .u64 0, .string .empty] 39)); refine wpList_app rfl (.tmp 83) (.tmp 85) rowCnd rfl _ (0 + N14) ((#[] : Array Value).toList ++ cns (p ++ [Cnd.nd 7] ++ q ++ [Cnd.nd 7])) rfl OC.out _ 1 (cns [Cnd.nd 5]) rfl (Src.rd Try.underlying22 _ 1 1 _ rfl (rd_lit rfl rfl) (cns_one _) (fun h => by cases h)) (by have := HB.out; unfold maxLen; omega) (by have := HB.out; omega) (by have := YC.out.size; first | exact this | (simp at this ⊢; omega)) ?_; intro vv w17 hown hg ha hb; replace OC := hid hown; replace YC := hid (YC.out.trans hb); clear hown hg ha hb; obtain ⟨B3, c3, hvv, hrd, hnn, _⟩ := Rd.owned OC.out; subst hvv; obtain ⟨N3, hN⟩ : ∃ N, N = 0 + N14 + 1 := ⟨_, rfl⟩; rw [← hN] at hnn ⊢; have HN3 := hid hN; have HZ3 := hid hnn; have R3 := hid (show Rd w17 B3 (cns ((p ++ [Cnd.nd 7] ++ q ++ [Cnd.nd 7]) ++ [Cnd.nd 5])) by rw [show cns ((p ++ [Cnd.nd 7] ++ q ++ [Cnd.nd 7]) ++ [Cnd.nd 5]) = (#[] : Array Value).toList ++ cns (p ++ [Cnd.nd 7] ++ q ++ [Cnd.nd 7]) ++ cns [Cnd.nd 5] from (by simp only [cns_app, List.append_assoc]; rfl)]; exact hrd); replace Xp := hid (Xp.out.then YC.out); replace RP := hid (RP.out.keep YC.out); replace RQ := hid (RQ.out.keep YC.out); replace R13 := hid (R13.out.keep YC.out); replace R14 := hid (R14.out.keep YC.out); replace R0 := hid (R0.out.keep YC.out); replace R1 := hid (R1.out.keep YC.out); replace R2 := hid (R2.out.keep YC.out); clear hN hnn hrd OC YC)
    | (at_builtin; have OC := hid (own_new (w := w17) (e := 39) (size := 5) (base := w17.heap.size) (n := 0) (C := #[]) (g := w17.heap.size) rfl rfl (Nat.le_refl _) (by decide)); have YC := hid ((ext_refl w17).new (.cells #[] 39)); refine wpList_app rfl (.tmp 87) (.tmp 88) rowCnd rfl _ (0) ((#[] : Array Value).toList) rfl OC.out _ n (cns p) rfl (Src.rd Try.underlying22 _ _ _ _ (by rw [cns_len, HPL.out]) (RP.out.keep YC.out) (cns_one _) HPN.out) (by have := HB.out; unfold maxLen; omega) (by have := HB.out; omega) (by have := YC.out.size; first | exact this | (simp at this ⊢; omega)) ?_; intro vv w18 hown hg ha hb; replace OC := hid hown; replace YC := hid (YC.out.trans hb); clear hown hg ha hb)
    | (at_builtin; replace OC := hid (own_ext OC.out ((ext_refl _).new (.cells #[.int .i64 7, .int .i64 0, .int .i64 0, .int .u64 0, .string .empty, .int .i64 7, .int .i64 0, .int .i64 0, .int .u64 0, .string .empty] 39))); replace YC := hid (Ext.new YC.out (.cells #[.int .i64 7, .int .i64 0, .int .i64 0, .int .u64 0, .string .empty, .int .i64 7, .int .i64 0, .int .i64 0, .int .u64 0, .string .empty] 39)); refine wpList_app rfl (.tmp 89) (.tmp 92) rowCnd rfl _ (0 + n) ((#[] : Array Value).toList ++ cns p) rfl OC.out _ 2 (cns [Cnd.nd 7, Cnd.nd 7]) rfl (Src.rd Try.underlying22 _ 2 2 _ rfl (rd_lit rfl rfl) (cns_one _) (fun h => by cases h)) (by have := HB.out; unfold maxLen; omega) (by have := HB.out; omega) (by have := YC.out.size; first | exact this | (simp at this ⊢; omega)) ?_; intro vv w19 hown hg ha hb; replace OC := hid hown; replace YC := hid (YC.out.trans hb); clear hown hg ha hb; obtain ⟨B4, c4, hvv, hrd, hnn, _⟩ := Rd.owned OC.out; subst hvv; obtain ⟨N4, hN⟩ : ∃ N, N = 0 + n + 2 := ⟨_, rfl⟩; rw [← hN] at hnn ⊢; have HN4 := hid hN; have HZ4 := hid hnn; have R4 := hid (show Rd w19 B4 (cns (p ++ [Cnd.nd 7, Cnd.nd 7])) by rw [show cns (p ++ [Cnd.nd 7, Cnd.nd 7]) = (#[] : Array Value).toList ++ cns p ++ cns [Cnd.nd 7, Cnd.nd 7] from (by simp only [cns_app, List.append_assoc]; rfl)]; exact hrd); replace Xp := hid (Xp.out.then YC.out); replace RP := hid (RP.out.keep YC.out); replace RQ := hid (RQ.out.keep YC.out); replace R13 := hid (R13.out.keep YC.out); replace R14 := hid (R14.out.keep YC.out); replace R0 := hid (R0.out.keep YC.out); replace R1 := hid (R1.out.keep YC.out); replace R2 := hid (R2.out.keep YC.out); replace R3 := hid (R3.out.keep YC.out); clear hN hnn hrd OC YC)
    | (go_at_call 21; go_loud (refine (cOp_any _ _).mono ?_; rintro e wc ⟨rfl, hx⟩; replace OC := hid (own_ext OC.out hx); replace YC := hid (Ext.then YC.out hx); clear hx)))
  have GB : Hid (Blk (w19.alloc (.cells #[.slice B0 N0 c0, .slice B1 N1 c1, .slice B2 N2 c2, .slice B3 N3 c3, .slice B4 N4 c4, .slice P n pcap] 22)) w19.heap.size 22 #[.slice B0 N0 c0, .slice B1 N1 c1, .slice B2 N2 c2, .slice B3 N3 c3, .slice B4 N4 c4, .slice P n pcap]) := hid (Blk.new _ _ _)
  have XA := hid ((ext_refl w19).new (.cells #[.slice B0 N0 c0, .slice B1 N1 c1, .slice B2 N2 c2, .slice B3 N3 c3, .slice B4 N4 c4, .slice P n pcap] 22))
  skip
  obtain ⟨vA0, hvA0⟩ : ∃ v, v = Cnd.ask ks ((p ++ q) ++ [Cnd.nd 5, Cnd.nd 7]) row := ⟨_, rfl⟩
  obtain ⟨vQ0, hvQ0⟩ : ∃ v, v = Cnd.prn ks ((p ++ q) ++ [Cnd.nd 5, Cnd.nd 7]) S Fs := ⟨_, rfl⟩
  obtain ⟨vA1, hvA1⟩ : ∃ v, v = Cnd.ask ks ((p ++ q) ++ [Cnd.nd 6, Cnd.nd 7]) row := ⟨_, rfl⟩
  obtain ⟨vQ1, hvQ1⟩ : ∃ v, v = Cnd.prn ks ((p ++ q) ++ [Cnd.nd 6, Cnd.nd 7]) S Fs := ⟨_, rfl⟩
  obtain ⟨vA2, hvA2⟩ : ∃ v, v = Cnd.ask ks (p ++ [Cnd.nd 7, Cnd.nd 7]) row := ⟨_, rfl⟩
  obtain ⟨vQ2, hvQ2⟩ : ∃ v, v = Cnd.prn ks (p ++ [Cnd.nd 7, Cnd.nd 7]) S Fs := ⟨_, rfl⟩
  have HA0 : Hid (∀ wx, Ext w19 wx → Calls Try.prog 14 #[.slice B0 N0 c0, .slice K kn kcap, .slice R r rcap] wx fun e w' => e = .returned (.tuple #[.int .i64 (vA0.1 : Nat), .int .i64 (vA0.2 : Nat)]) ∧ Ext wx w') := hid (fun wx hx => by
    have h := HASK.out ((p ++ q) ++ [Cnd.nd 5, Cnd.nd 7]) B0 N0 c0 wx (Xp.out.then hx) (by rw [HN0.out]; simp only [List.length_append, List.length_cons, List.length_nil, HPL.out, HQL.out]; have := HN13.out; omega) (R0.out.keep hx) (by have := HB.out; have := HN0.out; omega)
    rw [← hvA0] at h
    exact h)
  have HQ0 : Hid (∀ wx, Ext w19 wx → Calls Try.prog 19 #[.slice B0 N0 c0, .slice K kn kcap, .slice SA sn scap, .slice FA fn fcap] wx fun e w' => e = .returned (.tuple #[.int .i64 (vQ0.1 : Nat), .int .i64 (vQ0.2 : Nat)]) ∧ Ext wx w') := hid (fun wx hx => by
    have h := HPRN.out ((p ++ q) ++ [Cnd.nd 5, Cnd.nd 7]) B0 N0 c0 wx (Xp.out.then hx) (by rw [HN0.out]; simp only [List.length_append, List.length_cons, List.length_nil, HPL.out, HQL.out]; have := HN13.out; omega) (R0.out.keep hx) (by have := HB.out; have := HN0.out; omega) (fun c hc => by
      rcases List.mem_append.1 hc with h | h
      · exact HPQ.out c h
      · simp only [List.mem_cons, List.not_mem_nil, or_false] at h
        rcases h with rfl | rfl <;> exact HND.out _)
    rw [← hvQ0] at h
    exact h)
  have HA1 : Hid (∀ wx, Ext w19 wx → Calls Try.prog 14 #[.slice B1 N1 c1, .slice K kn kcap, .slice R r rcap] wx fun e w' => e = .returned (.tuple #[.int .i64 (vA0.1 : Nat), .int .i64 (vA0.2 : Nat)]) ∧ Ext wx w') := hid (fun wx hx => by
    have h := HASK.out ((p ++ [Cnd.nd 7] ++ q ++ [Cnd.nd 7]) ++ [Cnd.nd 6]) B1 N1 c1 wx (Xp.out.then hx) (by rw [HN1.out]; simp only [List.length_append, List.length_cons, List.length_nil, HPL.out, HQL.out]; have := HN14.out; omega) (R1.out.keep hx) (by have := HB.out; have := HN1.out; omega)
    rw [← Cnd.same_ask HM5.out row, ← hvA0] at h
    exact h)
  have HQ1 : Hid (∀ wx, Ext w19 wx → Calls Try.prog 19 #[.slice B1 N1 c1, .slice K kn kcap, .slice SA sn scap, .slice FA fn fcap] wx fun e w' => e = .returned (.tuple #[.int .i64 (vQ0.1 : Nat), .int .i64 (vQ0.2 : Nat)]) ∧ Ext wx w') := hid (fun wx hx => by
    have h := HPRN.out ((p ++ [Cnd.nd 7] ++ q ++ [Cnd.nd 7]) ++ [Cnd.nd 6]) B1 N1 c1 wx (Xp.out.then hx) (by rw [HN1.out]; simp only [List.length_append, List.length_cons, List.length_nil, HPL.out, HQL.out]; have := HN14.out; omega) (R1.out.keep hx) (by have := HB.out; have := HN1.out; omega) (fun c hc => by
      simp only [List.mem_append, List.mem_cons, List.not_mem_nil, or_false] at hc
      rcases hc with (((h | rfl) | h) | rfl) | rfl
      · exact HPQ.out c (List.mem_append.2 (.inl h))
      · exact HND.out _
      · exact HPQ.out c (List.mem_append.2 (.inr h))
      · exact HND.out _
      · exact HND.out _)
    rw [← Cnd.same_prn HM5.out S Fs, ← hvQ0] at h
    exact h)
  have HA2 : Hid (∀ wx, Ext w19 wx → Calls Try.prog 14 #[.slice B2 N2 c2, .slice K kn kcap, .slice R r rcap] wx fun e w' => e = .returned (.tuple #[.int .i64 (vA1.1 : Nat), .int .i64 (vA1.2 : Nat)]) ∧ Ext wx w') := hid (fun wx hx => by
    have h := HASK.out ((p ++ q) ++ [Cnd.nd 6, Cnd.nd 7]) B2 N2 c2 wx (Xp.out.then hx) (by rw [HN2.out]; simp only [List.length_append, List.length_cons, List.length_nil, HPL.out, HQL.out]; have := HN13.out; omega) (R2.out.keep hx) (by have := HB.out; have := HN2.out; omega)
    rw [← hvA1] at h
    exact h)
  have HQ2 : Hid (∀ wx, Ext w19 wx → Calls Try.prog 19 #[.slice B2 N2 c2, .slice K kn kcap, .slice SA sn scap, .slice FA fn fcap] wx fun e w' => e = .returned (.tuple #[.int .i64 (vQ1.1 : Nat), .int .i64 (vQ1.2 : Nat)]) ∧ Ext wx w') := hid (fun wx hx => by
    have h := HPRN.out ((p ++ q) ++ [Cnd.nd 6, Cnd.nd 7]) B2 N2 c2 wx (Xp.out.then hx) (by rw [HN2.out]; simp only [List.length_append, List.length_cons, List.length_nil, HPL.out, HQL.out]; have := HN13.out; omega) (R2.out.keep hx) (by have := HB.out; have := HN2.out; omega) (fun c hc => by
      rcases List.mem_append.1 hc with h | h
      · exact HPQ.out c h
      · simp only [List.mem_cons, List.not_mem_nil, or_false] at h
        rcases h with rfl | rfl <;> exact HND.out _)
    rw [← hvQ1] at h
    exact h)
  have HA3 : Hid (∀ wx, Ext w19 wx → Calls Try.prog 14 #[.slice B3 N3 c3, .slice K kn kcap, .slice R r rcap] wx fun e w' => e = .returned (.tuple #[.int .i64 (vA1.1 : Nat), .int .i64 (vA1.2 : Nat)]) ∧ Ext wx w') := hid (fun wx hx => by
    have h := HASK.out ((p ++ [Cnd.nd 7] ++ q ++ [Cnd.nd 7]) ++ [Cnd.nd 5]) B3 N3 c3 wx (Xp.out.then hx) (by rw [HN3.out]; simp only [List.length_append, List.length_cons, List.length_nil, HPL.out, HQL.out]; have := HN14.out; omega) (R3.out.keep hx) (by have := HB.out; have := HN3.out; omega)
    rw [← Cnd.same_ask HM6.out row, ← hvA1] at h
    exact h)
  have HQ3 : Hid (∀ wx, Ext w19 wx → Calls Try.prog 19 #[.slice B3 N3 c3, .slice K kn kcap, .slice SA sn scap, .slice FA fn fcap] wx fun e w' => e = .returned (.tuple #[.int .i64 (vQ1.1 : Nat), .int .i64 (vQ1.2 : Nat)]) ∧ Ext wx w') := hid (fun wx hx => by
    have h := HPRN.out ((p ++ [Cnd.nd 7] ++ q ++ [Cnd.nd 7]) ++ [Cnd.nd 5]) B3 N3 c3 wx (Xp.out.then hx) (by rw [HN3.out]; simp only [List.length_append, List.length_cons, List.length_nil, HPL.out, HQL.out]; have := HN14.out; omega) (R3.out.keep hx) (by have := HB.out; have := HN3.out; omega) (fun c hc => by
      simp only [List.mem_append, List.mem_cons, List.not_mem_nil, or_false] at hc
      rcases hc with (((h | rfl) | h) | rfl) | rfl
      · exact HPQ.out c (List.mem_append.2 (.inl h))
      · exact HND.out _
      · exact HPQ.out c (List.mem_append.2 (.inr h))
      · exact HND.out _
      · exact HND.out _)
    rw [← Cnd.same_prn HM6.out S Fs, ← hvQ1] at h
    exact h)
  have HA4 : Hid (∀ wx, Ext w19 wx → Calls Try.prog 14 #[.slice B4 N4 c4, .slice K kn kcap, .slice R r rcap] wx fun e w' => e = .returned (.tuple #[.int .i64 (vA2.1 : Nat), .int .i64 (vA2.2 : Nat)]) ∧ Ext wx w') := hid (fun wx hx => by
    have h := HASK.out (p ++ [Cnd.nd 7, Cnd.nd 7]) B4 N4 c4 wx (Xp.out.then hx) (by rw [HN4.out]; simp only [List.length_append, List.length_cons, List.length_nil, HPL.out]; omega) (R4.out.keep hx) (by have := HB.out; have := HN4.out; omega)
    rw [← hvA2] at h
    exact h)
  have HQ4 : Hid (∀ wx, Ext w19 wx → Calls Try.prog 19 #[.slice B4 N4 c4, .slice K kn kcap, .slice SA sn scap, .slice FA fn fcap] wx fun e w' => e = .returned (.tuple #[.int .i64 (vQ2.1 : Nat), .int .i64 (vQ2.2 : Nat)]) ∧ Ext wx w') := hid (fun wx hx => by
    have h := HPRN.out (p ++ [Cnd.nd 7, Cnd.nd 7]) B4 N4 c4 wx (Xp.out.then hx) (by rw [HN4.out]; simp only [List.length_append, List.length_cons, List.length_nil, HPL.out]; omega) (R4.out.keep hx) (by have := HB.out; have := HN4.out; omega) (fun c hc => by
      rcases List.mem_append.1 hc with h | h
      · exact HPQ.out c (List.mem_append.2 (.inl h))
      · simp only [List.mem_cons, List.not_mem_nil, or_false] at h
        rcases h with rfl | rfl <;> exact HND.out _)
    rw [← hvQ2] at h
    exact h)
  have HA5 : Hid (∀ wx, Ext w19 wx → Calls Try.prog 14 #[.slice P n pcap, .slice K kn kcap, .slice R r rcap] wx fun e w' => e = .returned (.tuple #[.int .i64 (vA2.1 : Nat), .int .i64 (vA2.2 : Nat)]) ∧ Ext wx w') := hid (fun wx hx => by
    have h := HASK.out (p) P n pcap wx (Xp.out.then hx) (HPL.out) (RP.out.keep hx) (by have := HB.out; omega)
    rw [← Cnd.same_ask HMT.out row, ← hvA2] at h
    exact h)
  have HQ5 : Hid (∀ wx, Ext w19 wx → Calls Try.prog 19 #[.slice P n pcap, .slice K kn kcap, .slice SA sn scap, .slice FA fn fcap] wx fun e w' => e = .returned (.tuple #[.int .i64 (vQ2.1 : Nat), .int .i64 (vQ2.2 : Nat)]) ∧ Ext wx w') := hid (fun wx hx => by
    have h := HPRN.out (p) P n pcap wx (Xp.out.then hx) (HPL.out) (RP.out.keep hx) (by have := HB.out; omega) (fun c hc => HPQ.out c (List.mem_append.2 (.inl hc)))
    rw [← Cnd.same_prn HMT.out S Fs, ← hvQ2] at h
    exact h)
  clear hvA0 hvA1 hvA2 hvQ0 hvQ1 hvQ2 HASK HPRN HPQ HND HM5 HM6 HMT R0 R1 R2 R3 R4 R13 R14 RP RQ HZ0 HZ1 HZ2 HZ3 HZ4 HZ13 HZ14 HN0 HN1 HN2 HN3 HN4 HN13 HN14 HPN HQN HPL HQL HB
  go_wp2
  go_loopw [16] (fun c wr => ∃ k : Nat, k ≤ 3 ∧ c = .int .i64 ((2 * k : Nat) : Int) ∧ Hid (Ext w19 wr) ∧ Hid (Blk wr w19.heap.size 22 #[.slice B0 N0 c0, .slice B1 N1 c1, .slice B2 N2 c2, .slice B3 N3 c3, .slice B4 N4 c4, .slice P n pcap])) (fun c _ => 6 - (intOf c).toNat)
  case atStart => exact ⟨0, by decide, rfl, XA, GB⟩
  case round =>
    obtain ⟨k, hk, rfl, Xr, GR⟩ := hrel
    rcases (by omega : k = 0 ∨ k = 1 ∨ k = 2 ∨ k = 3) with rfl | rfl | rfl | rfl
    · have g0 := GR.out.cell 0
      have g1 := GR.out.cell 1
      go_wp2_with (first | (go_at_call_of 14 (Value.slice B0 N0 c0); go_loud (refine (HA0.out _ Xr.out).mono ?_; rintro e wy ⟨rfl, hx⟩; replace Xr := hid (Xr.out.then hx); replace GR := hid (GR.out.keep hx); replace g0 := GR.out.cell 0; replace g1 := GR.out.cell 1; clear hx)) | (go_at_call_of 14 (Value.slice B1 N1 c1); go_loud (refine (HA1.out _ Xr.out).mono ?_; rintro e wy ⟨rfl, hx⟩; replace Xr := hid (Xr.out.then hx); replace GR := hid (GR.out.keep hx); replace g0 := GR.out.cell 0; replace g1 := GR.out.cell 1; clear hx)) | (go_at_call_of 19 (Value.slice B0 N0 c0); go_loud (refine (HQ0.out _ Xr.out).mono ?_; rintro e wy ⟨rfl, hx⟩; replace Xr := hid (Xr.out.then hx); replace GR := hid (GR.out.keep hx); replace g0 := GR.out.cell 0; replace g1 := GR.out.cell 1; clear hx)) | (go_at_call_of 19 (Value.slice B1 N1 c1); go_loud (refine (HQ1.out _ Xr.out).mono ?_; rintro e wy ⟨rfl, hx⟩; replace Xr := hid (Xr.out.then hx); replace GR := hid (GR.out.keep hx); replace g0 := GR.out.cell 0; replace g1 := GR.out.cell 1; clear hx)))
      go_roundw
      case rel => exact ⟨1, by decide, by go_num, Xr, GR⟩
      case measure => simp [intOf]
    · have g0 := GR.out.cell 2
      have g1 := GR.out.cell 3
      go_wp2_with (first | (go_at_call_of 14 (Value.slice B2 N2 c2); go_loud (refine (HA2.out _ Xr.out).mono ?_; rintro e wy ⟨rfl, hx⟩; replace Xr := hid (Xr.out.then hx); replace GR := hid (GR.out.keep hx); replace g0 := GR.out.cell 2; replace g1 := GR.out.cell 3; clear hx)) | (go_at_call_of 14 (Value.slice B3 N3 c3); go_loud (refine (HA3.out _ Xr.out).mono ?_; rintro e wy ⟨rfl, hx⟩; replace Xr := hid (Xr.out.then hx); replace GR := hid (GR.out.keep hx); replace g0 := GR.out.cell 2; replace g1 := GR.out.cell 3; clear hx)) | (go_at_call_of 19 (Value.slice B2 N2 c2); go_loud (refine (HQ2.out _ Xr.out).mono ?_; rintro e wy ⟨rfl, hx⟩; replace Xr := hid (Xr.out.then hx); replace GR := hid (GR.out.keep hx); replace g0 := GR.out.cell 2; replace g1 := GR.out.cell 3; clear hx)) | (go_at_call_of 19 (Value.slice B3 N3 c3); go_loud (refine (HQ3.out _ Xr.out).mono ?_; rintro e wy ⟨rfl, hx⟩; replace Xr := hid (Xr.out.then hx); replace GR := hid (GR.out.keep hx); replace g0 := GR.out.cell 2; replace g1 := GR.out.cell 3; clear hx)))
      go_roundw
      case rel => exact ⟨2, by decide, by go_num, Xr, GR⟩
      case measure => simp [intOf]
    · have g0 := GR.out.cell 4
      have g1 := GR.out.cell 5
      go_wp2_with (first | (go_at_call_of 14 (Value.slice B4 N4 c4); go_loud (refine (HA4.out _ Xr.out).mono ?_; rintro e wy ⟨rfl, hx⟩; replace Xr := hid (Xr.out.then hx); replace GR := hid (GR.out.keep hx); replace g0 := GR.out.cell 4; replace g1 := GR.out.cell 5; clear hx)) | (go_at_call_of 14 (Value.slice P n pcap); go_loud (refine (HA5.out _ Xr.out).mono ?_; rintro e wy ⟨rfl, hx⟩; replace Xr := hid (Xr.out.then hx); replace GR := hid (GR.out.keep hx); replace g0 := GR.out.cell 4; replace g1 := GR.out.cell 5; clear hx)) | (go_at_call_of 19 (Value.slice B4 N4 c4); go_loud (refine (HQ4.out _ Xr.out).mono ?_; rintro e wy ⟨rfl, hx⟩; replace Xr := hid (Xr.out.then hx); replace GR := hid (GR.out.keep hx); replace g0 := GR.out.cell 4; replace g1 := GR.out.cell 5; clear hx)) | (go_at_call_of 19 (Value.slice P n pcap); go_loud (refine (HQ5.out _ Xr.out).mono ?_; rintro e wy ⟨rfl, hx⟩; replace Xr := hid (Xr.out.then hx); replace GR := hid (GR.out.keep hx); replace g0 := GR.out.cell 4; replace g1 := GR.out.cell 5; clear hx)))
      go_roundw
      case rel => exact ⟨3, by decide, by go_num, Xr, GR⟩
      case measure => simp [intOf]
    · go_wp2
      go_returns
      exact ⟨rfl, Xp.out.then Xr.out⟩
end Go.Proofs.Ytpheegfanljeeaa
