/- From a law's walk to its row: the law answers true and leaves all that there was as it was. Whatever the parameters' types. Arguments opened: lists of numbers. No program in sight. Arguments opened: lists of records, whatever these are. No program in sight. Arguments opened: a list that stands in a list or a record. No program in sight. Arguments opened: cells. No program in sight. Arguments opened: lists of texts. No program in sight. -/
import Derived.Test.YtolhifnlahllnaaGreatDoorGen
import Derived.Test.YtolhifnlahllnaaGreatDoorClx
import Derived.ProofKit
import Derived.OpenShut
import Derived.JoinedCond
import Derived.SizedLaws
import Derived.Deep.CondSized
import Derived.Deep.Slices
import Derived.Deep.Fields
import Derived.Lib.SmallJoins
section
namespace Hy
open Go Go.RowKit Go.ChangeShapes Go.WideShapes Go.ChangeAt

section
variable {H : Type} {enc : TypeId × Value → H} {P : Program}
theorem trodAll_stays (hl : laidOutB P = true) {W W' : World} (hb : Ext W W') {sp : Nat → Bool} : ∀ {ts : List TypeId} {vs : List Value} {ds : List (DataW H)} {ps : List MemPlace},
    (ts.all fun t => P.readableRec t && decide (t < P.types.size)) = true → DataW.TrodAll enc P W 0 (fun _ => true) true ts vs ds ps → (∀ x ∈ ps, x.block < W.heap.size) → (∀ x ∈ ps, sp x.block = true) → DataW.TrodAll enc P W' 0 sp true ts vs ds ps
  | [], vs, ds, ps, _, h, _, _ => by obtain ⟨rfl, rfl, rfl⟩ := trodAll_nil h; exact trodAll_mk0
  | t :: ts, vs, ds, ps, hr, h, hlt, hsp => by
    obtain ⟨v, vs', d, ds', p, q, rfl, rfl, rfl, h1, h2⟩ := trodAll_cons h
    simp only [List.all_cons, Bool.and_eq_true, decide_eq_true_eq] at hr
    exact trodAll_cons_mk
      (WideElems.Trod_stays hl hr.1.1 hr.1.2 h1 (fun x hx => hb.same (hlt x (List.mem_append.2 (.inl hx)))) (fun x hx => hsp x (List.mem_append.2 (.inl hx))))
      (trodAll_stays hl hb hr.2 h2 (fun x hx => hlt x (List.mem_append.2 (.inr hx))) (fun x hx => hsp x (List.mem_append.2 (.inr hx))))

theorem law_post {f : Func} {s : ChangeSpec} {W W' : World} {args : Array Value} {ds : List (DataW H)} {before : List MemPlace} {tb : TypeId}
    (hl : laidOutB P = true) (hr : (f.params.toList.all fun t => P.readableRec t && decide (t < P.types.size)) = true) (hv : s.vars = [])
    (hW : DataW.Whole enc P f.params.toList s.vars false W args.toList ds [] before) (hb : Ext W W')
    (hres : f.resultTypes = #[tb]) (htb : P.underlying tb = some .bool) (hfn : s.fn H (ds ++ []) = { results := [.lit (.bool true)], args := ds, vars := [] }) :
    s.post enc P f false true false false W args (.bool true) W' := by
  have hW' := hW
  obtain ⟨p, q, hA, hV, rfl, _, _⟩ := hW
  rw [hv] at hV
  obtain ⟨_, rfl⟩ := trodVars_none hV
  have hlt : ∀ x ∈ p, x.block < W.heap.size := fun x hx => hW'.lt x (by simpa using hx)
  refine ⟨ds, [], p ++ [], [], p, [], hW', ?_, ?_, ?_, Below.frame hb _, fun h => by cases h⟩
  · rw [hfn, hres]
    exact trodAll_cons_mk (shut_bool htb true) trodAll_mk0
  · rw [hfn]
    exact trodAll_stays hl hb hr hA hlt (fun x hx => by simpa using hlt x hx)
  · rw [hfn, hv]
    rfl
end
end Hy
end
section
namespace Hy
open Go Go.RowKit Go.ChangeShapes Go.WideShapes Go.ChangeAt
theorem add_mk (a : Addr) (h : a.spot = none) (i : Nat) : a.add i = ⟨a.block, a.off + i, none⟩ := by
  obtain ⟨b, o, sp⟩ := a
  simp only at h
  subst h
  exact add_none b o i
theorem spot_none {w : World} {a : Addr} {i : Nat} {v : Value} (h : w.cell? (a.add i) = some v) : i = 0 → a.spot = none := by
  rintro rfl
  have e : a.add 0 = a := by unfold Addr.add; simp
  rw [e] at h
  unfold World.cell? at h
  split at h
  · split at h
    · cases h
    · rename_i hs; cases hh : a.spot with
      | none => rfl
      | some x => rw [hh] at hs; simp at hs
  · cases h
section
variable {H : Type} {enc : TypeId × Value → H} {P : Program} {w : World} {base : Nat} {spare : Nat → Bool} {held : Bool}
/-- a datum that is a list of numbers -/
def IsNums (d : DataW H) (l : List Nat) : Prop := (d = .nil ∧ l = []) ∨ ∃ sp : List (DataW H), d = .slice (l.map fun n : Nat => .lit (.int .u64 (n : Int))) sp
/-- a list of numbers that comes in -/
theorem open_nums {t e : TypeId} (ht : P.underlying t = some (.slice e)) (he : P.underlying e = some (.int .u64)) (hc : P.cellsOf e = 1)
    {r : Reach} {b0 : Nat} {v : Value} {d : DataW H} {ps : List MemPlace} (hv : Value.okWide P w r b0 t v) (h : DataW.Trod enc P w base spare held t v d ps) :
    ∃ (A : Option Addr) (len cap : Nat) (l : List Nat), v = .slice A len cap ∧ l.length = len ∧ len ≤ cap ∧ cap ≤ maxLen ∧ Rd w A (u64s l) ∧ (∀ x ∈ l, x < 18446744073709551616) ∧ IsNums d l := by
  obtain ⟨a0, len0, cap0, rfl⟩ := okWide_slice ht hv
  obtain ⟨fuel, hf⟩ := h
  rcases open_ints ht he hc hf with ⟨hcs, hx⟩ | ⟨a, len, cap, zs, hcs, hb, hl, hm, hz, hx, hcell, hwf⟩
  · simp only [Value.cells, List.cons.injEq, Value.slice.injEq, and_true] at hcs
    obtain ⟨rfl, rfl, rfl⟩ := hcs
    simp only [Prod.mk.injEq] at hx
    exact ⟨none, 0, 0, [], rfl, rfl, Nat.le_refl _, Nat.zero_le _, (fun hp => absurd hp (by simp [u64s])), (fun x hx => by cases hx), .inl ⟨hx.1, rfl⟩⟩
  · simp only [Value.cells, List.cons.injEq, Value.slice.injEq, and_true] at hcs
    obtain ⟨rfl, rfl, rfl⟩ := hcs
    simp only [Prod.mk.injEq] at hx
    have hlz : len0 ≤ zs.length := by rw [hz]; split <;> omega
    have hbd : ∀ n ∈ zs, 0 ≤ n ∧ n < 18446744073709551616 := fun n hn => by have := bounds_u64 (hwf n hn); omega
    have hlen : ((zs.take len0).map Int.toNat).length = len0 := by simp; omega
    have hget : ∀ i (hi : i < zs.length), zs.getD i 0 = zs[i] := fun i hi => by simp [hi]
    refine ⟨some a, len0, cap0, (zs.take len0).map Int.toNat, rfl, hlen, hl, hm, fun hpos => ?_, fun x hx => ?_, .inr ⟨lits .u64 (zs.drop len0), ?_⟩⟩
    · rw [u64s_len, hlen] at hpos
      have h0 := hcell 0 (by omega)
      have hsp := spot_none h0 rfl
      refine ⟨a.block, a.off, ?_, ?_, fun j u hu => ?_⟩
      · obtain ⟨b, o, sp⟩ := a
        simp only at hsp
        subst hsp; rfl
      · have := block_lt_of_cell h0
        rw [add_mk a hsp] at this; exact this
      · have hj : j < len0 := by
          have := (List.getElem?_eq_some_iff.1 hu).1
          rw [u64s_len, hlen] at this; exact this
        rw [u64s_get _ _ (by rw [hlen]; exact hj)] at hu
        have h1 := hcell j (by omega)
        rw [add_mk a hsp] at h1
        rw [h1, hget j (by omega), ← hu]
        simp only [List.getElem_map, List.getElem_take]
        rw [Int.toNat_of_nonneg (hbd _ (List.getElem_mem _)).1]
    · obtain ⟨n, hn, rfl⟩ := List.mem_map.1 hx
      have := hbd n (List.mem_of_mem_take hn)
      omega
    · rw [hx.1]
      congr 1
      unfold lits
      rw [List.map_map]
      apply List.map_congr_left
      intro n hn
      have := hbd n (List.mem_of_mem_take hn)
      simp only [Function.comp]
      rw [Int.toNat_of_nonneg this.1]
theorem sized_nums {ts : List TypeId} {ds : List (DataW H)} (h : (DataW.weightsEach P ts ds).all (· ≤ reachBytes) = true) {j : Nat} {t e : TypeId} {l : List Nat} {d : DataW H} (hu : P.underlying t = some (.slice e))
    (ht : ts[j]? = some t) (hd : ds[j]? = some d) (hl : IsNums d l) : l.length * P.bytesOf e ≤ reachBytes := by
  rcases hl with ⟨rfl, rfl⟩ | ⟨sp, rfl⟩
  · simp
  · have hall := List.all_eq_true.1 h
    have h1 := hall _ (DataW.weights_mem_each ht hd (((l.map fun n : Nat => DataW.lit (H := H) (.int .u64 (n : Int))).length + sp.length) * P.bytesOf e) (by simp [DataW.weights, hu]))
    simp only [decide_eq_true_eq, List.length_map] at h1
    exact Nat.le_trans (Nat.mul_le_mul_right _ (by omega)) h1
end
end Hy
end
section
namespace Hy
open Go Go.RowKit Go.ChangeShapes Go.WideShapes Go.ChangeAt Go.Deep Go.Joins
theorem list_of {α : Type} (n : Nat) (p : Nat → α → Prop) (h : ∀ i, i < n → ∃ c, p i c) : ∃ l : List α, l.length = n ∧ ∀ i (hi : i < l.length), p i l[i] := by
  induction n with
  | zero => exact ⟨[], rfl, fun i hi => absurd hi (by simp)⟩
  | succ n ih =>
    obtain ⟨l, hl, hp⟩ := ih fun i hi => h i (by omega)
    obtain ⟨c, hc⟩ := h n (by omega)
    refine ⟨l ++ [c], by simp [hl], fun i hi => ?_⟩
    by_cases hin : i < l.length
    · rw [List.getElem_append_left hin]; exact hp i hin
    · have e : i = l.length := by simp at hi; omega
      subst e
      rw [List.getElem_append_right (Nat.le_refl _)]
      simp only [Nat.sub_self, List.getElem_cons_zero]
      rw [hl]; exact hc
section
variable {H : Type} {enc : TypeId × Value → H} {P : Program} {w : World} {base : Nat} {spare : Nat → Bool} {held : Bool}
/-- a datum that is a list of data -/
def IsList (d : DataW H) (D : List (DataW H)) : Prop := (d = .nil ∧ D = []) ∨ ∃ sp : List (DataW H), d = .slice D sp
/-- a list that comes in: f: an element's cells (m of them); g: its datum; ok: what is known of it -/
theorem open_list {α : Type} {f : α → List Value} {m : Nat} (hf : ∀ x, (f x).length = m) (hm0 : 0 < m) {g : α → DataW H} {ok : α → Prop} {t e : TypeId} (ht : P.underlying t = some (.slice e)) (hC : P.cellsOf e = m)
    (hread : ∀ (fuel : Nat) (cs : List Value) (x : DataW H × List MemPlace), cs.length = m → DataW.trod enc P w base spare held fuel e cs = some x → ∃ c, cs = f c ∧ x.1 = g c ∧ ok c)
    {r : Reach} {b0 : Nat} {v : Value} {d : DataW H} {ps : List MemPlace} (hv : Value.okWide P w r b0 t v) (h : DataW.Trod enc P w base spare held t v d ps) :
    ∃ (A : Option Addr) (len cap : Nat) (l : List α), v = .slice A len cap ∧ l.length = len ∧ len ≤ cap ∧ cap ≤ maxLen ∧ (A = none → len = 0) ∧ Rd w A (l.flatMap f) ∧ (∀ c ∈ l, ok c) ∧ IsList d (l.map g) := by
  obtain ⟨a0, len0, cap0, rfl⟩ := okWide_slice ht hv
  obtain ⟨fuel, hf'⟩ := h
  rcases open_slice ht hf' with ⟨hcs, hx⟩ | ⟨a, len, cap, k, n, D, Pl, hcs, hb, hl, hm, hmm, hx, hi⟩
  · simp only [Value.cells, List.cons.injEq, Value.slice.injEq, and_true] at hcs
    obtain ⟨rfl, rfl, rfl⟩ := hcs
    simp only [Prod.mk.injEq] at hx
    exact ⟨none, 0, 0, [], rfl, rfl, Nat.le_refl _, Nat.zero_le _, fun _ => rfl, fun hp => absurd hp (by simp), fun c hc => by simp at hc, .inl ⟨hx.1, rfl⟩⟩
  · simp only [Value.cells, List.cons.injEq, Value.slice.injEq, and_true] at hcs
    obtain ⟨rfl, rfl, rfl⟩ := hcs
    simp only [Prod.mk.injEq] at hx
    have hlm : len0 ≤ k := by rw [hmm]; split <;> omega
    obtain ⟨l, hll, hp⟩ := list_of (α := α) len0 (fun i c => (∀ j u, (f c)[j]? = some u → w.cell? (a.add (i * m + j)) = some u) ∧ ok c ∧ D i = g c) (fun i hi' => by
      obtain ⟨cs', hc, htr⟩ := hi i (by omega)
      rw [hC] at hc
      obtain ⟨_, hcl, hat⟩ := World.cells?_some hc
      obtain ⟨c, rfl, hd, hok⟩ := hread _ _ _ hcl htr
      refine ⟨c, fun j u hu => ?_, hok, hd⟩
      have hj : j < m := by
        have := (List.getElem?_eq_some_iff.1 hu).1
        rw [hf] at this; exact this
      have h1 := hat j hj
      rw [Go.Deep.add_add] at h1
      rw [h1]; exact hu)
    refine ⟨some a, len0, cap0, l, rfl, hll, hl, hm, (fun h => by cases h), fun hpos => ?_, fun c hc => ?_, .inr ⟨(List.range (k - len0)).map fun j => D (len0 + j), ?_⟩⟩
    · have hl0 : 0 < l.length := by
        rw [flat_length hf] at hpos
        rcases Nat.eq_zero_or_pos l.length with h | h
        · rw [h, Nat.zero_mul] at hpos; cases hpos
        · exact h
      obtain ⟨u0, hu0⟩ : ∃ u, (f l[0])[0]? = some u := ⟨(f l[0])[0]'(by rw [hf]; exact hm0), List.getElem?_eq_getElem _⟩
      have h0 := (hp 0 hl0).1 0 _ hu0
      have hsp := spot_none h0 (by simp)
      refine ⟨a.block, a.off, ?_, ?_, fun j u hu => ?_⟩
      · obtain ⟨b, o, sp⟩ := a
        simp only at hsp
        subst hsp; rfl
      · have := block_lt_of_cell h0
        rw [add_mk a hsp] at this; exact this
      · have hj := (List.getElem?_eq_some_iff.1 hu).1
        rw [flat_length hf] at hj
        have hq : j / m < l.length := Nat.div_lt_of_lt_mul (by rw [Nat.mul_comm]; exact hj)
        have e : j = j / m * m + j % m := by rw [Nat.mul_comm]; exact (Nat.div_add_mod j m).symm
        rw [e, flat_get hf l (j / m) hq (j % m) (Nat.mod_lt _ hm0)] at hu
        have h1 := (hp (j / m) hq).1 (j % m) u hu
        rw [← e, add_mk a hsp] at h1
        exact h1
    · obtain ⟨i, hi', rfl⟩ := List.getElem_of_mem hc
      exact (hp i hi').2.1
    · rw [hx.1]
      congr 1
      apply List.ext_getElem (by simp [hll])
      intro i h1 h2
      simp only [List.getElem_map, List.getElem_range]
      exact (hp i (by simpa using h2)).2.2
/-- what the reading's reach says of a list -/
theorem weightsAll_in {e : TypeId} {l : List (DataW H)} {d : DataW H} {n : Nat} (hd : d ∈ l) (hn : n ∈ d.weights P e) : n ∈ DataW.weightsAll P e l := by
  induction l with
  | nil => cases hd
  | cons x r ih =>
    simp only [DataW.weightsAll, List.mem_append]
    rcases List.mem_cons.1 hd with rfl | hr
    · exact .inl hn
    · exact .inr (ih hr)
theorem weights_list {t e : TypeId} {D : List (DataW H)} {d : DataW H} (hu : P.underlying t = some (.slice e)) (hl : IsList d D) (h : ∀ n ∈ d.weights P t, n ≤ reachBytes) :
    D.length * P.bytesOf e ≤ reachBytes ∧ ∀ x ∈ D, ∀ n ∈ x.weights P e, n ≤ reachBytes := by
  rcases hl with ⟨rfl, rfl⟩ | ⟨sp, rfl⟩
  · exact ⟨by simp, fun c hc => by cases hc⟩
  · refine ⟨?_, fun x hx n hn => ?_⟩
    · have h1 := h ((D.length + sp.length) * P.bytesOf e) (by simp [DataW.weights, hu])
      exact Nat.le_trans (Nat.mul_le_mul_right _ (by omega)) h1
    · exact h n (by
        simp only [DataW.weights, hu, List.mem_cons, List.mem_append]
        exact .inr (.inl (weightsAll_in hx hn)))
theorem weights_each {ts : List TypeId} {ds : List (DataW H)} (h : (DataW.weightsEach P ts ds).all (· ≤ reachBytes) = true) {j : Nat} {t : TypeId} {d : DataW H} (ht : ts[j]? = some t) (hd : ds[j]? = some d) : ∀ n ∈ d.weights P t, n ≤ reachBytes := fun n hn => by
  have := List.all_eq_true.1 h _ (DataW.weights_mem_each ht hd n hn)
  simpa using this
end
end Hy
end
section
namespace Hy
open Go Go.RowKit Go.ChangeShapes Go.WideShapes Go.ChangeAt Go.Deep Go.Joins
section
variable {H : Type} {enc : TypeId × Value → H} {P : Program} {w : World} {base : Nat} {spare : Nat → Bool} {held : Bool}
/-- a list that stands in a list -/
theorem read_list {α : Type} {f : α → List Value} {m : Nat} (hf : ∀ x, (f x).length = m) (hm0 : 0 < m) {g : α → DataW H} {ok : α → Prop} {t e : TypeId} (ht : P.underlying t = some (.slice e)) (hC : P.cellsOf e = m)
    (hread : ∀ (fuel : Nat) (cs : List Value) (x : DataW H × List MemPlace), cs.length = m → DataW.trod enc P w base spare held fuel e cs = some x → ∃ c, cs = f c ∧ x.1 = g c ∧ ok c)
    {fuel : Nat} {cs : List Value} {x : DataW H × List MemPlace} (h : DataW.trod enc P w base spare held fuel t cs = some x) :
    ∃ (A : Option Addr) (len cap : Nat) (l : List α), cs = [.slice A len cap] ∧ l.length = len ∧ len ≤ cap ∧ cap ≤ maxLen ∧ (A = none → len = 0) ∧ Rd w A (l.flatMap f) ∧ (∀ c ∈ l, ok c) ∧ IsList x.1 (l.map g) := by
  rcases open_slice ht h with ⟨hcs, hx⟩ | ⟨a, len0, cap0, k, n, D, Pl, hcs, hb, hl, hm, hmm, hx, hi⟩
  · subst hcs
    rw [hx]
    exact ⟨none, 0, 0, [], rfl, rfl, Nat.le_refl _, Nat.zero_le _, fun _ => rfl, fun hp => absurd hp (by simp), fun c hc => by simp at hc, .inl ⟨rfl, rfl⟩⟩
  · subst hcs
    have hlm : len0 ≤ k := by rw [hmm]; split <;> omega
    obtain ⟨l, hll, hp⟩ := list_of (α := α) len0 (fun i c => (∀ j u, (f c)[j]? = some u → w.cell? (a.add (i * m + j)) = some u) ∧ ok c ∧ D i = g c) (fun i hi' => by
      obtain ⟨cs', hc, htr⟩ := hi i (by omega)
      rw [hC] at hc
      obtain ⟨_, hcl, hat⟩ := World.cells?_some hc
      obtain ⟨c, rfl, hd, hok⟩ := hread _ _ _ hcl htr
      refine ⟨c, fun j u hu => ?_, hok, hd⟩
      have hj : j < m := by
        have := (List.getElem?_eq_some_iff.1 hu).1
        rw [hf] at this; exact this
      have h1 := hat j hj
      rw [Go.Deep.add_add] at h1
      rw [h1]; exact hu)
    refine ⟨some a, len0, cap0, l, rfl, hll, hl, hm, (fun h => by cases h), fun hpos => ?_, fun c hc => ?_, .inr ⟨(List.range (k - len0)).map fun j => D (len0 + j), ?_⟩⟩
    · have hl0 : 0 < l.length := by
        rw [flat_length hf] at hpos
        rcases Nat.eq_zero_or_pos l.length with h | h
        · rw [h, Nat.zero_mul] at hpos; cases hpos
        · exact h
      obtain ⟨u0, hu0⟩ : ∃ u, (f l[0])[0]? = some u := ⟨(f l[0])[0]'(by rw [hf]; exact hm0), List.getElem?_eq_getElem _⟩
      have h0 := (hp 0 hl0).1 0 _ hu0
      have hsp := spot_none h0 (by simp)
      refine ⟨a.block, a.off, ?_, ?_, fun j u hu => ?_⟩
      · obtain ⟨b, o, sp⟩ := a
        simp only at hsp
        subst hsp; rfl
      · have := block_lt_of_cell h0
        rw [add_mk a hsp] at this; exact this
      · have hj := (List.getElem?_eq_some_iff.1 hu).1
        rw [flat_length hf] at hj
        have hq : j / m < l.length := Nat.div_lt_of_lt_mul (by rw [Nat.mul_comm]; exact hj)
        have e : j = j / m * m + j % m := by rw [Nat.mul_comm]; exact (Nat.div_add_mod j m).symm
        rw [e, flat_get hf l (j / m) hq (j % m) (Nat.mod_lt _ hm0)] at hu
        have h1 := (hp (j / m) hq).1 (j % m) u hu
        rw [← e, add_mk a hsp] at h1
        exact h1
    · obtain ⟨i, hi', rfl⟩ := List.getElem_of_mem hc
      exact (hp i hi').2.1
    · rw [hx]
      show DataW.slice _ _ = DataW.slice _ _
      congr 1
      apply List.ext_getElem (by simp [hll])
      intro i h1 h2
      simp only [List.getElem_map, List.getElem_range]
      exact (hp i (by simpa using h2)).2.2
end
end Hy
end
section
namespace Hy
open Go Go.RowKit Go.ChangeShapes Go.WideShapes Go.ChangeAt Go.Deep Go.Joins
section
variable {H : Type} {enc : TypeId × Value → H} {P : Program} {w : World} {base : Nat} {spare : Nat → Bool} {held : Bool}
def datCel (c : Cel) : DataW H := .agg [.lit (.int .i64 c.1), .lit (.int .u64 (c.2.1 : Int)), .lit (.string c.2.2.data.toList)]
def okCel (c : Cel) : Prop := c.2.1 < 18446744073709551616 ∧ c.2.2.size ≤ maxLen
abbrev cel3' (c : Cel) : List Value := [.int .i64 c.1, .int .u64 (c.2.1 : Nat), .string c.2.2]
theorem read_cel {e : TypeId} {f0 f1 f2 : Field} (he : P.underlying e = some (.struct #[f0, f1, f2])) (hone : oneCellFields P #[f0, f1, f2] = true)
    (t0 : P.underlying f0.type = some (.int .i64)) (t1 : P.underlying f1.type = some (.int .u64)) (t2 : P.underlying f2.type = some .string)
    (fuel : Nat) (cs : List Value) (x : DataW H × List MemPlace) (hl : cs.length = 3) (h : DataW.trod enc P w base spare held fuel e cs = some x) :
    ∃ c : Cel, cs = cel3' c ∧ x.1 = datCel c ∧ okCel c := by
  obtain ⟨ys, n, _, hx, _, hyl, hf⟩ := DataW.trod_struct he h
  obtain ⟨o0, k0⟩ := hone_of hone 0 f0 rfl
  obtain ⟨o1, k1⟩ := hone_of hone 1 f1 rfl
  obtain ⟨o2, k2⟩ := hone_of hone 2 f2 rfl
  match cs, hl, ys, hyl with
  | [c0, c1, c2], _, [y0, y1, y2], _ =>
    have g0 := hf 0 f0 rfl
    have g1 := hf 1 f1 rfl
    have g2 := hf 2 f2 rfl
    rw [o0, k0] at g0; rw [o1, k1] at g1; rw [o2, k2] at g2
    simp only [List.drop_zero, List.drop_succ_cons, List.take_succ_cons, List.take_zero, List.getElem?_cons_zero, List.getElem?_cons_succ] at g0 g1 g2
    obtain ⟨a, ea, rfl, wa⟩ := DataW.trod_int t0 g0
    obtain ⟨b, eb, rfl, wb⟩ := DataW.trod_int t1 g1
    obtain ⟨s, es, rfl, ws⟩ := DataW.trod_string t2 g2
    simp only [List.cons.injEq, and_true] at ea eb es
    subst ea eb es
    have bb := bounds_u64 wb
    refine ⟨(a, b.toNat, s), ?_, ?_, by simp only; omega, ws⟩
    · show _ = [_, Value.int .u64 ((b.toNat : Nat) : Int), _]
      rw [show ((b.toNat : Nat) : Int) = b from by omega]
    · rw [hx]; simp only [datCel, List.map_cons, List.map_nil]; rw [show ((b.toNat : Nat) : Int) = b from by omega]
theorem open_cel {e : TypeId} {f0 f1 f2 : Field} (he : P.underlying e = some (.struct #[f0, f1, f2])) (hone : oneCellFields P #[f0, f1, f2] = true) (hC : P.cellsOf e = 3)
    (t0 : P.underlying f0.type = some (.int .i64)) (t1 : P.underlying f1.type = some (.int .u64)) (t2 : P.underlying f2.type = some .string)
    {r : Reach} {b0 : Nat} {v : Value} {d : DataW H} {ps : List MemPlace} (hv : Value.okWide P w r b0 e v) (h : DataW.Trod enc P w base spare held e v d ps) :
    ∃ c : Cel, v = .agg #[.int .i64 c.1, .int .u64 (c.2.1 : Nat), .string c.2.2] ∧ d = datCel c ∧ okCel c := by
  obtain ⟨cs, rfl, hsz⟩ := okWide_struct he hv
  obtain ⟨fuel, hf⟩ := h
  obtain ⟨c, hcs, hx, hn⟩ := read_cel he hone t0 t1 t2 _ _ _ (by simp only [Value.cells]; rw [Array.length_toList, hsz, hC]) hf
  simp only [Value.cells] at hcs
  refine ⟨c, ?_, hx, hn⟩
  rw [← Array.toArray_toList (xs := cs), hcs]
theorem cel_weight {e : TypeId} {f0 f1 f2 : Field} (he : P.underlying e = some (.struct #[f0, f1, f2])) (c : Cel) : c.2.2.size ∈ (datCel (H := H) c).weights P e := by
  simp [datCel, DataW.weights, he, DataW.weightsEach]
end
end Hy
end
section
namespace Hy
open Go Go.RowKit Go.ChangeShapes Go.WideShapes Go.ChangeAt
section
variable {H : Type} {enc : TypeId × Value → H} {P : Program} {w : World} {base : Nat} {spare : Nat → Bool} {held : Bool}
/-- a datum that is a list of texts -/
def IsTexts (d : DataW H) (l : List (List UInt8)) : Prop := (d = .nil ∧ l = []) ∨ ∃ sp : List (DataW H), d = .slice (l.map fun b => .lit (.string b)) sp
theorem open_texts {t e : TypeId} (ht : P.underlying t = some (.slice e)) (he : P.underlying e = some .string) (hc : P.cellsOf e = 1)
    {r : Reach} {b0 : Nat} {v : Value} {d : DataW H} {ps : List MemPlace} (hv : Value.okWide P w r b0 t v) (h : DataW.Trod enc P w base spare held t v d ps) :
    ∃ (A : Option Addr) (len cap : Nat) (l : List (List UInt8)), v = .slice A len cap ∧ l.length = len ∧ len ≤ cap ∧ cap ≤ maxLen ∧ Rd w A (txs l) ∧ (∀ x ∈ l, x.length ≤ maxLen) ∧ IsTexts d l := by
  obtain ⟨a0, len0, cap0, rfl⟩ := okWide_slice ht hv
  obtain ⟨fuel, hf⟩ := h
  rcases open_strings ht he hc hf with ⟨hcs, hx⟩ | ⟨a, len, cap, zs, hcs, hb, hl, hm, hz, hx, hcell, hwf⟩
  · simp only [Value.cells, List.cons.injEq, Value.slice.injEq, and_true] at hcs
    obtain ⟨rfl, rfl, rfl⟩ := hcs
    simp only [Prod.mk.injEq] at hx
    exact ⟨none, 0, 0, [], rfl, rfl, Nat.le_refl _, Nat.zero_le _, (fun hp => absurd hp (by simp [txs])), (fun x hx => by cases hx), .inl ⟨hx.1, rfl⟩⟩
  · simp only [Value.cells, List.cons.injEq, Value.slice.injEq, and_true] at hcs
    obtain ⟨rfl, rfl, rfl⟩ := hcs
    simp only [Prod.mk.injEq] at hx
    have hlz : len0 ≤ zs.length := by rw [hz]; split <;> omega
    have hlen : ((zs.take len0).map fun s => s.data.toList).length = len0 := by simp; omega
    have hget : ∀ i (hi : i < zs.length), zs.getD i ByteArray.empty = zs[i] := fun i hi => by simp [hi]
    refine ⟨some a, len0, cap0, (zs.take len0).map fun s => s.data.toList, rfl, hlen, hl, hm, fun hpos => ?_, fun x hx => ?_, .inr ⟨strs (zs.drop len0), ?_⟩⟩
    · rw [txs_len, hlen] at hpos
      have h0 := hcell 0 (by omega)
      have hsp := spot_none h0 rfl
      refine ⟨a.block, a.off, ?_, ?_, fun j u hu => ?_⟩
      · obtain ⟨b, o, sp⟩ := a
        simp only at hsp
        subst hsp; rfl
      · have := block_lt_of_cell h0
        rw [add_mk a hsp] at this; exact this
      · have hj : j < len0 := by
          have := (List.getElem?_eq_some_iff.1 hu).1
          rw [txs_len, hlen] at this; exact this
        rw [txs_get _ _ (by rw [hlen]; exact hj)] at hu
        have h1 := hcell j (by omega)
        rw [add_mk a hsp] at h1
        rw [h1, hget j (by omega), ← hu]
        simp
    · obtain ⟨n, hn, rfl⟩ := List.mem_map.1 hx
      have := hwf n (List.mem_of_mem_take hn)
      rw [Array.length_toList]; exact this
    · rw [hx.1]
      congr 1
      unfold strs
      rw [List.map_map]
      rfl
theorem weightsAll_mem {e : TypeId} {l : List (DataW H)} {d : DataW H} {n : Nat} (hd : d ∈ l) (hn : n ∈ d.weights P e) : n ∈ DataW.weightsAll P e l := by
  induction l with
  | nil => cases hd
  | cons x r ih =>
    simp only [DataW.weightsAll, List.mem_append]
    rcases List.mem_cons.1 hd with rfl | hr
    · exact .inl hn
    · exact .inr (ih hr)
theorem sized_texts {ts : List TypeId} {ds : List (DataW H)} (h : (DataW.weightsEach P ts ds).all (· ≤ reachBytes) = true) {j : Nat} {t e : TypeId} {l : List (List UInt8)} {d : DataW H} (hu : P.underlying t = some (.slice e))
    (ht : ts[j]? = some t) (hd : ds[j]? = some d) (hl : IsTexts d l) : l.length * P.bytesOf e ≤ reachBytes ∧ ∀ x ∈ l, x.length ≤ reachBytes := by
  rcases hl with ⟨rfl, rfl⟩ | ⟨sp, rfl⟩
  · exact ⟨by simp, fun c hc => by cases hc⟩
  · have hall := List.all_eq_true.1 h
    refine ⟨?_, fun c hc => ?_⟩
    · have h1 := hall _ (DataW.weights_mem_each ht hd (((l.map fun b => DataW.lit (H := H) (.string b)).length + sp.length) * P.bytesOf e) (by simp [DataW.weights, hu]))
      simp only [decide_eq_true_eq, List.length_map] at h1
      exact Nat.le_trans (Nat.mul_le_mul_right _ (by omega)) h1
    · have h1 := hall c.length (DataW.weights_mem_each ht hd _ (by
        simp only [DataW.weights, hu, List.mem_cons, List.mem_append]
        exact .inr (.inl (weightsAll_mem (List.mem_map.2 ⟨c, hc, rfl⟩) (by simp [DataW.weights])))))
      simpa using h1
end
end Hy
end
