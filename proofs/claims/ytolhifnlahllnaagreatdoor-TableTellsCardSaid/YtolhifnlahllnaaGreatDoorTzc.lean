/- Tables, the document: Picked: walk. -/
import Derived.Test.YtolhifnlahllnaaGreatDoorTzb
import Derived.Test.YtolhifnlahllnaaGreatDoorTzp
namespace Hy.Tb
open Go
theorem map_snoc {α β : Type} (f : α → β) (L : List α) (k : Nat) (h : k < L.length) : (L.take (k + 1)).map f = (L.take k).map f ++ [f L[k]] := by
  rw [List.take_succ_eq_append_getElem h, List.map_append]; rfl
def ints (L : List Nat) : List Int := L.map fun (i : Nat) => (i : Int)
theorem ints_len (L : List Nat) : (ints L).length = L.length := List.length_map _
theorem ints_at (L : List Nat) (k : Nat) (h : k < L.length) : (ints L)[k]'(by rw [ints_len]; exact h) = (L[k] : Int) := by simp [ints]
theorem ints_snoc (L : List Nat) (i : Nat) : ints (L ++ [i]) = ints L ++ [(i : Int)] := by simp [ints]
end Hy.Tb
namespace Go.Proofs.YtolhifnlahllnaaGreatDoor
open Go.RowKit Hy
/-- outside of blocks lo .. hi -/
def OutB (lo hi b : Nat) : Prop := b < lo ∨ hi ≤ b
/-- a table that is read, of whose blocks p holds -/
def TbP (p : Nat → Prop) (w : World) (v : Value) (t : Tb.Tab) : Prop := ∃ A c B d L, v = .agg #[.slice A t.1.length c, .slice B t.2.length d] ∧ Rd w A (ens t.1) ∧ Rd w B (rws' L) ∧ L.map (·.2) = t.2 ∧ (∀ x ∈ L, RwOk w x) ∧ (A = none → t.1.length = 0) ∧ (B = none → t.2.length = 0) ∧ t.1.length ≤ c ∧ (0 < (ens t.1).length → ∀ a, A = some a → p a.block) ∧ (0 < (rws' L).length → ∀ a, B = some a → p a.block) ∧ (∀ x ∈ L, 0 < (cls x.2).length → ∀ a, x.1.1 = some a → p a.block)
theorem TbP.V {p : Nat → Prop} {w : World} {v : Value} {t : Tb.Tab} (h : TbP p w v t) : TbV w v t := by
  obtain ⟨A, c, B, d, L, e, h1, h2, hL, hok, z1, z2, hc, _⟩ := h
  exact ⟨A, c, B, d, L, e, h1, h2, hL, hok, z1, z2, hc⟩
theorem TbP.mono {p q : Nat → Prop} {w : World} {v : Value} {t : Tb.Tab} (h : TbP p w v t) (hpq : ∀ b, p b → q b) : TbP q w v t := by
  obtain ⟨A, c, B, d, L, e, h1, h2, hL, hok, z1, z2, hc, k1, k2, k3⟩ := h
  exact ⟨A, c, B, d, L, e, h1, h2, hL, hok, z1, z2, hc, fun h a ha => hpq _ (k1 h a ha), fun h a ha => hpq _ (k2 h a ha), fun x hx h a ha => hpq _ (k3 x hx h a ha)⟩
theorem TbP.keep {p : Nat → Prop} {w w' : World} {v : Value} {t : Tb.Tab} (h : TbP p w v t) (hx : Ext w w') : TbP p w' v t := by
  obtain ⟨A, c, B, d, L, e, h1, h2, hL, hok, z⟩ := h
  exact ⟨A, c, B, d, L, e, h1.keep hx, h2.keep hx, hL, fun x hx' => (hok x hx').keep hx, z⟩
theorem TbP.put {p : Nat → Prop} {w : World} {v : Value} {t : Tb.Tab} (h : TbP p w v t) {q : Addr} (hq : ¬ p q.block) (u : Value) : TbP p (w.setCell q u) v t := by
  obtain ⟨A, c, B, d, L, e, h1, h2, hL, hok, z1, z2, hc, k1, k2, k3⟩ := h
  exact ⟨A, c, B, d, L, e, Rd.but h1 (fun hp b hb e' => hq (e' ▸ k1 hp b hb)) u, Rd.but h2 (fun hp b hb e' => hq (e' ▸ k2 hp b hb)) u, hL, fun x hx => ⟨(hok x hx).1, (hok x hx).2.1, (hok x hx).2.2.1, Rd.but (hok x hx).2.2.2 (fun hp b hb e' => hq (e' ▸ k3 x hx hp b hb)) u⟩, z1, z2, hc, k1, k2, k3⟩
theorem rd_lt {w : World} {A : Option Addr} {cs : List Value} (h : Rd w A cs) : 0 < cs.length → ∀ a, A = some a → a.block < w.heap.size := fun hp a ha => by
  obtain ⟨b, o, e, hb, _⟩ := h hp
  rw [ha] at e
  injection e with e
  rw [e]; exact hb
theorem TbV.P {w : World} {v : Value} {t : Tb.Tab} (h : TbV w v t) : TbP (· < w.heap.size) w v t := by
  obtain ⟨A, c, B, d, L, e, h1, h2, hL, hok, z1, z2, hc⟩ := h
  exact ⟨A, c, B, d, L, e, h1, h2, hL, hok, z1, z2, hc, rd_lt h1, rd_lt h2, fun x hx => rd_lt (hok x hx).2.2.2⟩
theorem own_out {w : World} {lo hi base : Nat} {e : TypeId} {size : Nat} {A : Option Addr} {n c m : Nat} {xs : List Value} (h : w.ownsRow base e size (.slice A n c) m xs) (hb : hi ≤ base) : ∀ a, A = some a → OutB lo hi a.block := fun a ha => .inr (Nat.le_trans hb (own_block_rng h (by rw [ha]; rfl)).1)
set_option maxHeartbeats 3200000 in
set_option maxRecDepth 100000 in
/-- the document's rows at places -/
theorem picked_any (t : Tb.Tab) (S : List Nat) (P : Option Addr) (np pc : Nat) (v : Value) (lo : Nat) (w : World) (hv : TbP (OutB lo w.heap.size) w v t) (hp : Rd w P (i64s (Tb.ints S))) (hnp : S.length = np) (h1000 : np ≤ 1000) (hm : t.2.length ≤ 1000) (hi : ∀ i ∈ S, ∀ l ∈ t.2, i < l.length) (hb : ∀ l ∈ t.2, l.length ≤ 1000) :
    Calls Tryz.prog 51 #[v, .slice P np pc] w fun e w' => ∃ v', e = .returned v' ∧ TbP (OutB lo w.heap.size) w' v' (Tb.pick t S) ∧ Ext w w' := by
  obtain ⟨A, c, B, d, L, rfl, h1, h2, hL, hok, z1, z2, hc, k1, k2, k3⟩ := hv
  obtain ⟨n, hn⟩ : ∃ n, n = t.1.length := ⟨_, rfl⟩
  obtain ⟨m, hm'⟩ : ∃ n, n = t.2.length := ⟨_, rfl⟩
  rw [← hn, ← hm']
  have HM := hid hm'; have HLM := hid hL; have HOK := hid hok; have HB := hid h2; have HI := hid hi; have HBD := hid hb; have HP := hid hp; have HNP := hid hnp
  have HCOL := hid (⟨hn, h1, z1, hc, k1⟩ : n = t.1.length ∧ Rd w A (ens t.1) ∧ (A = none → t.1.length = 0) ∧ t.1.length ≤ c ∧ (0 < (ens t.1).length → ∀ a, A = some a → OutB lo w.heap.size a.block))
  have hmI : (m : Int) ≤ 1000 := by omega
  have HML := hid (show m ≤ 1000 by omega)
  have hnpI : (np : Int) ≤ 1000 := by omega
  have HNL := hid h1000
  have HST := hid (fun k => Tb.map_snoc (fun (l : List Cel) => S.map fun i => l.getD i Cnd.O) t.2 k)
  clear h1 h2 hL hok z1 z2 hc hn hm hm' hi hb hp hnp h1000 k1 k2 k3
  go_enter Tryz.func51, Tryz.ntmps51
  go_upto_region 2 with fail
  refine wp_gen (fun w' => Ext w w' ∧ Blk w' w.heap.size 25 #[.slice A n c, .slice B m d] ∧ Blk w' (w.heap.size + 1) 25 #[.slice none 0 0, .slice none 0 0] ∧ Blk w' (w.heap.size + 1 + 1) 25 #[.slice A n c, .slice none 0 0] ∧ w'.heap.size = w.heap.size + 3) ⟨(((ext_refl w).new _).new _).new _, ((Blk.new _ _ _).alloc _).alloc _, (blk_at _ _ (by simp)).alloc _, blk_at _ _ (by simp), by simp⟩ ?_
  rintro wz ⟨x0, x1, x2, x3, x4⟩
  have XZ := hid x0
  have BT := hid x1
  have BR := hid x2
  have HSZ := hid x4
  have F0 := hid x3
  clear x0 x1 x2 x3 x4
  obtain ⟨g0, hg0⟩ : ∃ g, g = w.heap.size := ⟨_, rfl⟩
  obtain ⟨g1, hg1⟩ : ∃ g, g = w.heap.size + 1 := ⟨_, rfl⟩
  obtain ⟨g2, hg2⟩ : ∃ g, g = w.heap.size + 1 + 1 := ⟨_, rfl⟩
  rw [← hg0] at BT
  rw [← hg1] at BR
  rw [← hg2] at F0
  rw [← hg2, ← hg1, ← hg0]
  have HG := hid (⟨hg0, hg1, hg2⟩ : g0 = w.heap.size ∧ g1 = w.heap.size + 1 ∧ g2 = w.heap.size + 1 + 1)
  clear hg0 hg1 hg2
  go_wp2
  go_loopw [6, 7, 8] (fun ii _ _ wr => ∃ k : Nat, k ≤ m ∧ ii = .int .i64 k ∧ ∃ B' d' L', Hid (Blk wr g0 25 #[.slice A n c, .slice B m d] ∧ Blk wr g1 25 #[.slice none 0 0, .slice none 0 0] ∧ Blk wr g2 25 #[.slice A n c, .slice B' k d']) ∧ Hid (wr.ownsRow wz.heap.size 45 1 (.slice B' k d') k (rws' L')) ∧ Hid (L'.map (·.2) = (t.2.take k).map fun l => S.map fun i => l.getD i Cnd.O) ∧ Hid (∀ x ∈ L', RwO wr wz.heap.size x) ∧ Hid (Ext w wr) ∧ Hid (wz.heap.size ≤ wr.heap.size)) (fun ii _ _ _ => m - (intOf ii).toNat)
  case atStart => exact ⟨0, Nat.zero_le _, rfl, none, 0, [], hid ⟨BT.out, BR.out, F0.out⟩, hid (World.ownsRow_nil _ _ _ _), hid rfl, hid (fun x hx => absurd hx List.not_mem_nil), XZ, hid (Nat.le_refl _)⟩
  case round =>
    obtain ⟨k, hk, rfl, B', d', L', HF, HO, HL', HR', HX, HWZ⟩ := hrel
    have p0 := HF.out.1.cell 0
    have p1 := HF.out.1.cell 1
    by_cases hlt : k < m
    · have hkd : k < t.2.length := by rw [← HM.out]; exact hlt
      have hLl : L.length = t.2.length := by rw [← HLM.out, List.length_map]
      have hkL : k < L.length := by rw [hLl]; exact hkd
      obtain ⟨b2, o2, e2, l2, c2⟩ := HB.out.rows k hkL
      have r0 := c2 k hkL
      have R0 := hid r0
      have hdk : L[k].2 = t.2[k] := by simp [← HLM.out]
      obtain ⟨w1, w2, w3, w4⟩ := HOK.out _ (List.getElem_mem hkL)
      have HLK := hid (fun i (h : i ∈ S) => HI.out i h _ (List.getElem_mem hkd))
      have hbl := HBD.out _ (List.getElem_mem hkd)
      have HSN := hid (HST.out k hkd)
      have HCS := hid w4.cels
      have HLL := hid (show L[k].2.length = L[k].1.2.1 from w1)
      have hlI : (L[k].1.2.1 : Int) ≤ 1000 := by rw [← w1, hdk]; omega
      rw [← hdk] at HLK HSN
      clear c2 w1 w2 w3 w4 hdk l2 hbl r0
      generalize L[k].2 = lc at *
      generalize L[k].1.1 = Ak at *
      generalize L[k].1.2.1 = lk at *
      generalize L[k].1.2.2 = ck at *
      have he2 := hid e2
      clear hkd hLl hkL e2
      have e2 := he2.out
      subst e2
      have hltI : (k : Int) < (m : Int) := by omega
      have hmI2 := hmI
      go_upto_region 7 with fail
      clear p0 p1
      have n0 := True.intro
      go_loopw [7, 8] (fun o ii wy => ∃ j : Nat, j ≤ np ∧ ii = .int .i64 j ∧ Hid (wy.ownsRow wr.heap.size 42 3 o j (cls ((S.take j).map fun i => lc.getD i Cnd.O))) ∧ Hid (Ext wr wy)) (fun _ ii _ => np - (intOf ii).toNat)
      case atStart => exact ⟨0, Nat.zero_le _, rfl, hid (World.ownsRow_nil _ _ _ _), hid (ext_refl _)⟩
      case round =>
        obtain ⟨j, hj, rfl, HOj, HXj⟩ := hrel
        by_cases hltj : j < np
        · have hjS : j < S.length := by rw [HNP.out]; exact hltj
          have hjP : j < (Tb.ints S).length := by rw [Tb.ints_len]; exact hjS
          obtain ⟨b3, o3, e3, l3, c3⟩ := HP.out.ints j hjP
          have XW := hid (HX.out.then HXj.out)
          have s0 := ext_cell XW.out (c3 j hjP)
          rw [Tb.ints_at S j hjS] at s0
          have hSj := HLK.out S[j] (List.getElem_mem hjS)
          obtain ⟨b4, o4, e4, l4, c4⟩ := HCS.out S[j] hSj
          obtain ⟨q0, q1, q2⟩ := c4 S[j] hSj
          replace q0 := ext_cell XW.out q0
          replace q1 := ext_cell XW.out q1
          replace q2 := ext_cell XW.out q2
          have r0 := ext_cell XW.out R0.out
          have hxx : lc.getD S[j] Cnd.O = lc[S[j]] := by rw [List.getD_eq_getElem?_getD, List.getElem?_eq_getElem hSj]; rfl
          have HSJ := hid (Tb.map_snoc (fun i => lc.getD i Cnd.O) S j hjS)
          simp only [hxx] at HSJ
          have hiI : (S[j] : Int) < (lk : Int) := by rw [← HLL.out]; omega
          have hi0 : (0 : Int) ≤ (S[j] : Int) := by omega
          have p1 := (HF.out.1.keep HXj.out).cell 1
          have HSW := hid HXj.out.size
          generalize lc[S[j]] = x at *
          clear c3 c4 l3 l4 hxx
          generalize S[j] = ij at *
          have he3 := hid e3; have he4 := hid e4
          clear hjS hjP hSj e3 e4
          have e3 := he3.out
          have e4 := he4.out
          subst e3 e4
          obtain ⟨y, z, s⟩ := x
          simp only at q0 q1 q2
          have p1r := cell_regrown p1
          have r0r := cell_regrown r0
          have s0r := cell_regrown s0
          have q0r := cell_regrown q0
          have q1r := cell_regrown q1
          have q2r := cell_regrown q2
          have hjI : (j : Int) < (np : Int) := by omega
          obtain ⟨K0, hK0⟩ : ∃ K, K = (S.take j).map fun i => lc.getD i Cnd.O := ⟨_, rfl⟩
          rw [← hK0] at HOj HSJ
          clear hK0
          go_upto_region 9 with fail
          refine wp_region_late [13] [14] [(0, true), (1, true), (2, true), (3, true), (4, true), (5, true), (6, true), (7, true), (8, true), (9, true), (10, true), (11, true), (12, false), (13, false), (14, true)] (by kernel_rfl) (by kernel_rfl) (fun _ _ _ _ _ h => h) (by kernel_rfl) (by rfl) ?_
          simp only [List.filterMap_cons, List.filterMap_nil, List.getElem?_toArray, List.getElem?_cons_zero, List.getElem?_cons_succ, Option.map_some, List.contains_cons, List.contains_nil, Nat.reduceBEq, Bool.or_false]
          repeat ((first | refine wpL_val (by rfl) ?_ | refine wpL_pure (by rfl) ?_); intro K hK; go_big_quiet_op; go_big_quiet_on)
          refine wpL_do (by rfl) ?_
          intro K hK
          go_simp
          have J1 := hid (Ext.new (Ext.draw (ext_refl wr)) (.cells #[.int .i64 y, .int .u64 (z : Nat), .string s] 42))
          refine hK _ _ J1.out ?_
          clear K hK
          refine wpL_late (by rfl) ?_
          intro K hK
          refine wp_app (.tmp 25) (.tmp 37) rowCe rfl _ j (cls K0) rfl (own_ext HOj.out J1.out) _ 1 (cls [(y, z, s)]) rfl (Src.rd Tryz.underlying45 _ 1 1 _ rfl (rd_lit rfl rfl) (cls_one _) (fun h => by cases h)) (by have := HNL.out; simp only [maxLen] at *; omega) (by have := HNL.out; omega) (Nat.le_trans HSW.out J1.out.size) ?_
          intro v2 w8 hown8 hgrow hat hbel
          have M1 := hid hown8
          have MX := hid (Below.trans (Ext.then HXj.out J1.out) hbel)
          clear hown8 hgrow hat hbel
          refine hK _ _ ?_
          clear K hK
          simp only [Act.put, List.setIfInBounds_toArray, List.set_cons_zero, List.set_cons_succ]
          repeat (refine wpL_pure (by rfl) ?_; intro K hK; go_big_quiet_op; go_big_quiet_on)
          refine wpL_nil ?_
          clear p1 p1r r0 r0r s0 s0r q0 q0r q1 q1r q2 q2r
          go_wp2
          go_roundw
          case rel => exact ⟨j + 1, by omega, by go_num, hid (by rw [HSJ.out, cls_app]; exact M1.out), MX⟩
          case measure => simp [intOf] <;> omega
        · obtain rfl : np = j := by omega
          have hfull : (S.take np).map (fun i => lc.getD i Cnd.O) = S.map fun i => lc.getD i Cnd.O := by rw [List.take_of_length_le (by rw [HNP.out]; exact Nat.le_refl _)]
          rw [hfull] at HOj
          obtain ⟨Al, cl, rfl, hrl, hcl, hzl, hgl⟩ := Rd.owned HOj.out
          have OA := hid HOj.out
          clear HOj hfull hltj hrl hcl hzl hgl
          have HF2 := hid (And.intro (HF.out.1.keep HXj.out) (And.intro (HF.out.2.1.keep HXj.out) (HF.out.2.2.keep HXj.out)))
          have HO2 := hid (own_ext HO.out HXj.out)
          have HW2 := hid (Nat.le_trans HWZ.out HXj.out.size)
          have o1 := HF2.out.2.2.cell 1
          have of1 := HF2.out.2.2.frozen 1
          have olt := HF2.out.2.2.lt
          obtain ⟨lst, hlst⟩ : ∃ l, l = S.map fun i => lc.getD i Cnd.O := ⟨_, rfl⟩
          rw [← hlst] at OA HSN
          clear hlst
          have HXn := hid (Ext.new (ext_refl wr) (.cells #[.slice Al np cl] 45))
          have HOx := hid (own_ext HO2.out HXn.out)
          have HFx := hid (HF2.out.2.2.keep HXn.out)
          have HBx := hid (own_nblk HOx.out HFx.out (by decide))
          go_wp2_with (at_builtin; go_loud (refine wpList_app rfl (.tmp 40) (.tmp 42) rowRo rfl _ k (rws' L') rfl HOx.out _ 1 (rws' [((Al, np, cl), lst)]) rfl (Src.rd Tryz.underlying23 _ 1 1 (rws' [((Al, np, cl), lst)]) rfl (rd_lit (w := wr) (g := wr.heap.size) (C := #[.slice Al np cl]) (e := 45) (fz := (0, 0)) (cs := rws' [((Al, np, cl), lst)]) rfl rfl) (rws_one _) (fun h => by cases h)) (by have := HML.out; simp only [maxLen] at *; omega) (by have := HML.out; omega) (Nat.le_trans HW2.out (Ext.new (ext_refl wr) (.cells #[.slice Al np cl] 45)).size) ?_; intro v2 w9 hown9 hgrow hat hbel; have HG9 := hid hgrow; have M1 := hid hown9; have MB := hid (Blk.grw HFx.out hgrow HBx.out); have MX := hid hbel; obtain ⟨A8, c8, rfl, _⟩ := Rd.owned hown9; have q1 := MB.out.cell 1; have f1 := MB.out.frozen 1; have lq := MB.out.lt; clear hown9 hgrow hat hbel o1 of1 olt))
          go_roundw
          case rel =>
            have hb9 := own_nblk M1.out MB.out (by decide)
            refine ⟨k + 1, by omega, by go_num, A8, c8, L' ++ [((Al, np, cl), lst)], hid ⟨?_, ?_, ((MB.out.set 1 (.slice A8 (k + 1) c8)).cast (by simp))⟩, hid ?_, hid ?_, hid ?_, hid ?_, hid ?_⟩
            · exact (Blk.grw (HF2.out.1.keep HXn.out) HG9.out (own_nblk HOx.out (HF2.out.1.keep HXn.out) (by decide))).far (p := ⟨g2, 1, none⟩) (by have := HG.out; simp only; omega) _
            · exact (Blk.grw (HF2.out.2.1.keep HXn.out) HG9.out (own_nblk HOx.out (HF2.out.2.1.keep HXn.out) (by decide))).far (p := ⟨g2, 1, none⟩) (by have := HG.out; simp only; omega) _
            · rw [rws_app]; exact own_put M1.out (p := ⟨g2, 1, none⟩) hb9 _
            · rw [HSN.out, List.map_append, HL'.out]; rfl
            · intro x hx
              rcases List.mem_append.1 hx with hx | hx
              · have h1 := own_ext (own_ext (HR'.out x hx) HXj.out) (Ext.new (ext_refl wr) (.cells #[.slice Al np cl] 45))
                have h2 := World.ownsRow.kept h1 HG9.out (own_ne h1 (own_ext HO2.out (Ext.new (ext_refl wr) _)) (by decide))
                exact own_put h2 (p := ⟨g2, 1, none⟩) (own_nblk h2 MB.out (by decide)) _
              · simp only [List.mem_cons, List.not_mem_nil, or_false] at hx
                subst hx
                have h1 := own_low' (own_ext OA.out (Ext.new (ext_refl wr) (.cells #[.slice Al np cl] 45))) (base := wz.heap.size) HWZ.out
                have h2 := World.ownsRow.kept h1 HG9.out (own_ne h1 (own_ext HO2.out (Ext.new (ext_refl wr) _)) (by decide))
                exact own_put h2 (p := ⟨g2, 1, none⟩) (own_nblk h2 MB.out (by decide)) _
            · exact Below.setCell (Below.trans (HX.out.then (HXj.out.then HXn.out)) (Below.mono MX.out XZ.out.size)) (p := ⟨g2, 1, none⟩) (by have := HG.out; simp only; omega) _
            · rw [size_put]; exact Nat.le_trans (Nat.le_trans HW2.out HXn.out.size) MX.out.size
          case measure => simp [intOf] <;> omega
    · obtain rfl : m = k := by omega
      have v0 := HF.out.2.2.cell 0
      have v1 := HF.out.2.2.cell 1
      have u0 := HF.out.2.1.cell 0
      have u1 := HF.out.2.1.cell 1
      have y0 := HF.out.2.1.frozen 0
      have y1 := HF.out.2.1.frozen 1
      clear hlt
      go_wp2
      have HBF := hid (((HF.out.2.1.set 0 (.slice A n c)).set 1 (.slice B' m d')).cast (cs' := #[.slice A n c, .slice B' m d']) (by simp))
      have hg1 : w.heap.size ≤ g1 ∧ g1 < wz.heap.size := by have := HG.out; have := HSZ.out; omega
      have XF := hid (Ext.put (Ext.put HX.out (p := ⟨g1, 0, none⟩) hg1.1 (.slice A n c)) (p := ⟨g1, 1, none⟩) hg1.1 (.slice B' m d'))
      refine bodyPost_ret (results_blk rfl _ _ g1 25 _ _ rfl HBF.out Tryz.underlying25 rfl (by kernel_rfl)) rfl ?_
      have e1 : ∀ {e : TypeId} {size : Nat} {u : Value} {q : Nat} {xs : List Value}, wr.ownsRow wz.heap.size e size u q xs → ((wr.setCell ⟨g1, 0, none⟩ (.slice A n c)).setCell ⟨g1, 1, none⟩ (.slice B' m d')).ownsRow wz.heap.size e size u q xs := fun h => own_past (own_past h (p := ⟨g1, 0, none⟩) hg1.2 _) (p := ⟨g1, 1, none⟩) hg1.2 _
      obtain ⟨hn, hr, hz, hc, hk1⟩ := HCOL.out
      obtain ⟨rB, zB, cB⟩ := own_rd (e1 HO.out)
      exact ⟨_, rfl, ⟨A, c, B', d', L', by rw [hn]; simp only [Tb.pick, List.length_map]; rw [← HM.out], hr.keep XF.out, rB, by rw [HL'.out, List.take_of_length_le (by rw [← HM.out]; exact Nat.le_refl _)]; rfl, fun x hx => RwO.ok (base := wz.heap.size) (e1 (HR'.out x hx)), hz, fun h => by simp only [Tb.pick, List.length_map]; rw [← HM.out]; exact zB h, hc, hk1, fun _ => own_out HO.out XZ.out.size, fun x hx _ => own_out (HR'.out x hx) XZ.out.size⟩, XF.out⟩
end Go.Proofs.YtolhifnlahllnaaGreatDoor
