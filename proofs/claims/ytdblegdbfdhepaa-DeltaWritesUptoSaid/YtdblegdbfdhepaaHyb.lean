/- Hybrid: the parts of a list: walks. -/
import Derived.Test.YtdblegdbfdhepaaHya
import Derived.Test.YtdblegdbfdhepaaOwf
import Derived.Test.YtdblegdbfdhepaaSli
namespace Hy
open Go Go.RowKit
theorem rd_grown {w w' : World} {b o : Nat} {cs : List Value} {row : Option Nat} (h : Rd w (some ⟨b, o, none⟩) cs) (hg : w.grownBy w' row) (hne : row ≠ some b) : Rd w' (some ⟨b, o, none⟩) cs := fun hp => by
  obtain ⟨b', o', e, hlt, hc⟩ := h hp
  cases e
  refine ⟨b, o, rfl, Nat.lt_of_lt_of_le hlt hg.size, fun j u hu => ?_⟩
  have := hg.block b hlt (Ne.symm hne)
  rw [← hc j u hu]
  simp only [World.cell?, this]
theorem own_grown {base : Nat} {e : TypeId} {size : Nat} {v : Value} {n : Nat} {xs : List Value} {w w' : World} {row : Option Nat} (h : w.ownsRow base e size v n xs) (hg : w.grownBy w' row) (hne : v.ownBlock = none ∨ row ≠ v.ownBlock) : w'.ownsRow base e size v n xs := by
  refine ⟨h.1, ?_⟩
  rcases h.2 with h | ⟨b, cap, cur, hv, hb, hgg, r⟩
  · exact .inl h
  · refine .inr ⟨b, cap, cur, hv, hb, ?_, r⟩
    have hlt : b < w.heap.size := by
      rcases Nat.lt_or_ge b w.heap.size with hlt | hge
      · exact hlt
      · rw [Array.getElem?_eq_none hge] at hgg; cases hgg
    rw [hg.block b hlt ?_]; exact hgg
    rcases hne with hne | hne
    · rw [hv] at hne; cases hne
    · rw [hv] at hne; exact Ne.symm hne
theorem blk_grown {w w' : World} {g : Nat} {t : TypeId} {cs : Array Value} {row : Option Nat} (h : Blk w g t cs) (hg : w.grownBy w' row) (hne : row ≠ some g) : Blk w' g t cs := (hg.block g h.lt (Ne.symm hne)).trans h
theorem but_put (w : World) (p : Addr) (u : Value) : But p.block w (w.setCell p u) := (but_refl p.block w).put p (.inl rfl) u
end Hy
namespace Go.Proofs.Ytdblegdbfdhepaa
open Go.RowKit Hy
/-- a value that is a part; its blocks lie where nothing is written any more -/
def PartV (w : World) (dead : Nat → Prop) (v : Value) : Hyb.Part → Prop
  | .run x m => v = .iface 105 (.agg #[.int .u64 (x : Int), .int .i64 (m : Int)])
  | .blk l => ∃ b cap, v = .iface 103 (.slice (some ⟨b, 0, none⟩) l.length cap) ∧ Rd w (some ⟨b, 0, none⟩) (u64s l) ∧ dead b ∧ b < w.heap.size
theorem PartV.grown {w w' : World} {row : Option Nat} {dead dead' : Nat → Prop} {v : Value} {p : Hyb.Part} (h : PartV w dead v p) (hg : w.grownBy w' row) (hr : ∀ b, dead b → row ≠ some b) (hd : ∀ b, b < w.heap.size → dead b → dead' b) : PartV w' dead' v p := by
  cases p with
  | run x m => exact h
  | blk l =>
    obtain ⟨b, cap, e, r, d, lt⟩ := h
    exact ⟨b, cap, e, rd_grown r hg (hr b d), hd b lt d, Nat.lt_of_lt_of_le lt hg.size⟩
def PartsV (w : World) (dead : Nat → Prop) (P : List Hyb.Part) (xs : List Value) : Prop := ∀ (i : Nat) (p : Hyb.Part), P[i]? = some p → ∃ v : Value, xs[i]? = some v ∧ PartV w dead v p
theorem PartsV.grown {w w' : World} {row : Option Nat} {dead dead' : Nat → Prop} {P : List Hyb.Part} {xs : List Value} (h : PartsV w dead P xs) (hg : w.grownBy w' row) (hr : ∀ b, dead b → row ≠ some b) (hd : ∀ b, b < w.heap.size → dead b → dead' b) : PartsV w' dead' P xs := fun i p hi => by
  obtain ⟨v, h1, h2⟩ := h i p hi
  exact ⟨v, h1, h2.grown hg hr hd⟩
theorem PartsV.snoc {w : World} {dead : Nat → Prop} {P : List Hyb.Part} {xs : List Value} {v : Value} {q : Hyb.Part} (h : PartsV w dead P xs) (hl : xs.length = P.length) (hv : PartV w dead v q) : PartsV w dead (P ++ [q]) (xs ++ [v]) := fun i p hi => by
  rcases Nat.lt_or_ge i P.length with h1 | h1
  · rw [List.getElem?_append_left h1] at hi
    rw [List.getElem?_append_left (by omega)]; exact h i p hi
  · rw [List.getElem?_append_right h1] at hi
    obtain h0 : i - P.length = 0 := by
      have := (List.getElem?_eq_some_iff.1 hi).1; simp at this; omega
    rw [h0] at hi
    rw [List.getElem?_append_right (by omega), hl, h0]
    cases hi
    exact ⟨v, rfl, hv⟩
/-- the parts so far, and what stands in open blocks -/
def HySt (base bo bp : Nat) (w : World) (P : List Hyb.Part) (o : List Nat) : Prop :=
  ∃ vp vo xs, Blk w bo 103 #[vo] ∧ Blk w bp 85 #[vp] ∧ w.ownsRow base 88 1 vp P.length xs ∧ w.ownsRow base 33 1 vo o.length (u64s o) ∧
    PartsV w (fun b => base ≤ b ∧ vp.ownBlock ≠ some b ∧ vo.ownBlock ≠ some b) P xs
theorem rowPt : RowT Try.prog 85 88 1 16 := RowT.mk' (z := .nilIface) Try.underlying85 (by kernel_rfl) rfl (by decide)
theorem rowBk : RowT Try.prog 103 33 1 8 := RowT.mk' (z := .int .u64 0) Try.underlying103 (by kernel_rfl) rfl (by decide)
set_option maxRecDepth 100000 in
set_option maxHeartbeats 1600000 in
theorem shut_any (B base bo bp : Nat) (P : List Hyb.Part) (o : List Nat) (w : World) (hS : HySt base bo bp w P o) (hne : bo ≠ bp) (h1 : B ≤ bo) (h2 : B ≤ bp) (h3 : bo < base) (h4 : bp < base) (hbw : base ≤ w.heap.size) (hP : P.length ≤ 1000) (ho : o.length ≤ 1000) :
    Calls Try.prog 97 #[.pointer (some ⟨bo, 0, none⟩), .pointer (some ⟨bp, 0, none⟩)] w fun e w' => e = .returned (.tuple #[]) ∧ HySt base bo bp w' (P ++ Hyb.shut o) [] ∧ Below B w w' := by
  obtain ⟨vp, vo, xs, B1, B2, O1, O2, PV⟩ := hS
  have hc2 := B2.cell 0
  have hf1 := B1.frozen 0
  have hf2 := B2.frozen 0
  have HB1 := hid B1
  have HB2 := hid B2
  have HO1 := hid O1
  have HO2 := hid O2
  have HPV := hid PV
  have HPL := hid hP
  by_cases h0 : o = []
  · subst h0
    obtain ⟨A, cap, rfl, _⟩ := Rd.owned O2
    have hc1 := B1.cell 0
    clear B1 B2 O1 O2 PV
    go_enter Try.func97, Try.ntmps97
    go_wp2
    go_returns
    refine ⟨rfl, ?_, Below.refl _ _⟩
    rw [Hyb.shut_nil, List.append_nil]
    exact ⟨_, _, xs, HB1.out, HB2.out, HO1.out, HO2.out, HPV.out⟩
  · have hposI : (0 : Int) < (o.length : Int) := by have := List.length_pos_iff.2 h0; omega
    have HOE := hid h0
    obtain ⟨b, cap, rfl, hbb⟩ : ∃ b cap, vo = .slice (some ⟨b, 0, none⟩) o.length cap ∧ base ≤ b := by
      rcases O2.2 with ⟨_, hz⟩ | ⟨b, cap, cur, e, hbb, _⟩
      · exact absurd (List.eq_nil_of_length_eq_zero hz) h0
      · exact ⟨b, cap, e, hbb⟩
    have hc1 := B1.cell 0
    have hrd : Rd w (some ⟨b, 0, none⟩) (u64s o) := by
      obtain ⟨A, c, e, hr, _⟩ := Rd.owned O2
      cases e; exact hr
    have HRD := hid hrd
    have HHB := hid hbb
    have HLT := hid (show b < w.heap.size from (O2.lt b rfl).2)
    have HNB := hid (show vp.ownBlock ≠ some bo from fun e => by have := (O1.lt bo e).1; omega)
    have HNP := hid (show vp.ownBlock ≠ some bp from fun e => by have := (O1.lt bp e).1; omega)
    have HNE := hid (own_ne O2 O1 (by decide))
    clear B1 B2 O1 O2 PV hrd hbb hP h0
    go_enter Try.func97, Try.ntmps97
    go_wp2_with (at_builtin; refine wpList_app rfl (.tmp 5) (.tmp 8) rowPt rfl _ P.length xs rfl (own_ext HO1.out ((ext_refl w).new _)) _ 1 [.iface 103 (.slice (some ⟨b, 0, none⟩) o.length cap)] rfl (Src.rd Try.underlying85 _ 1 1 _ rfl (rd_lit rfl rfl) (fun u hu => by rw [List.mem_singleton] at hu; subst hu; rfl) (fun h => by cases h)) (by have := HPL.out; unfold maxLen; omega) (by have := HPL.out; omega) (by simp; omega) ?_; intro v3 w3 hown3 hgr3 hat3 hbel3; obtain ⟨C3, c3, rfl, _⟩ := Rd.owned hown3; have B13 := (blk_grown (HB1.out.alloc _) hgr3 HNB.out); have B23 := (blk_grown (HB2.out.alloc _) hgr3 HNP.out); have hc13 := B13.cell 0; have hc23 := B23.cell 0; have hf13 := B13.frozen 0; have hf23 := B23.frozen 0; have HB13 := hid B13; have HB23 := hid B23; have HO3 := hid hown3; have HG3 := hid hgr3; have HA3 := hid hat3; have HL3 := hid hbel3; clear hown3 hgr3 hat3 hbel3 B13 B23 hc1 hc2 hf1 hf2)
    go_wp2
    go_returns
    refine ⟨rfl, ?_, ?_⟩
    · rw [Hyb.shut_of o HOE.out]
      refine ⟨.slice C3 (P.length + 1) c3, .slice none 0 0, xs ++ [.iface 103 (.slice (some ⟨b, 0, none⟩) o.length cap)], ?_, ?_, ?_, ?_, ?_⟩
      · exact (HB13.out.far hne _).set 0 _
      · exact (HB23.out.set 0 _).far (Ne.symm hne) _
      · rw [List.length_append]
        exact own_but (own_but HO3.out (but_put _ _ _) h4) (but_put _ _ _) h3
      · exact ⟨rfl, .inl ⟨rfl, rfl⟩⟩
      · have hown : ∀ c, c < (w.alloc (.cells #[.iface 103 (.slice (some ⟨b, 0, none⟩) o.length cap)] 88)).heap.size → vp.ownBlock ≠ some c → (Value.slice C3 (P.length + 1) c3).ownBlock ≠ some c := fun c hc hn => by
          rcases HA3.out with e | e
          · rw [e]; exact hn
          · rw [e]; intro e2; injection e2 with e2; omega
        have hsz : w.heap.size < (w.alloc (.cells #[.iface 103 (.slice (some ⟨b, 0, none⟩) o.length cap)] 88)).heap.size := by simp
        have hbv : vp.ownBlock ≠ some b := by
          rcases HNE.out with e | e
          · cases e
          · exact Ne.symm e
        have P1 : PartsV w3 (fun c => base ≤ c ∧ (Value.slice C3 (P.length + 1) c3).ownBlock ≠ some c ∧ (Value.slice none 0 0).ownBlock ≠ some c) P xs := fun i p hi => by
          obtain ⟨v, e1, e2⟩ := HPV.out i p hi
          refine ⟨v, e1, ?_⟩
          cases p with
          | run x m => exact e2
          | blk l =>
            obtain ⟨c, cc, e3, r, ⟨d1, d2, d3⟩, lt⟩ := e2
            exact ⟨c, cc, e3, rd_grown (r.keep ((ext_refl w).new _)) HG3.out d2, ⟨d1, hown c (by omega) d2, by intro e; cases e⟩, Nat.lt_of_lt_of_le (by omega) HG3.out.size⟩
        have P2 := P1.snoc (v := .iface 103 (.slice (some ⟨b, 0, none⟩) o.length cap)) (q := .blk o) (by have := HO3.out.1; simpa using this) ⟨b, cap, rfl, rd_grown (HRD.out.keep ((ext_refl w).new _)) HG3.out hbv, ⟨HHB.out, hown b (by have := HLT.out; omega) hbv, by intro e; cases e⟩, Nat.lt_of_lt_of_le (by have := HLT.out; omega) HG3.out.size⟩
        refine (P2.grown (but_put _ ⟨bp, 0, none⟩ _) (fun c hc e => ?_) (fun _ _ h => h)).grown (but_put _ ⟨bo, 0, none⟩ _) (fun c hc e => ?_) (fun _ _ h => h)
        · injection e with e; have := hc.1; simp only at e; omega
        · injection e with e; have := hc.1; simp only at e; omega
    · refine Below.setCell (Below.setCell (Below.trans ((Below.refl B w).alloc (by omega) _) (HL3.out.mono (by omega))) (by simpa using h2) _) (by simpa using h1) _
end Go.Proofs.Ytdblegdbfdhepaa
