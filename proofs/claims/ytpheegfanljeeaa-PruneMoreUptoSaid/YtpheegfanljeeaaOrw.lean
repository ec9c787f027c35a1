/- Arguments opened: lists of lists of cells. No program in sight. -/
import Derived.Test.YtpheegfanljeeaaOst
import Derived.Test.YtpheegfanljeeaaCef
import Derived.Test.YtpheegfanljeeaaUpl
namespace Hy
open Go Go.RowKit Go.ChangeShapes Go.WideShapes Go.ChangeAt Go.Deep Go.Joins
section
variable {H : Type} {enc : TypeId × Value → H} {P : Program} {w : World} {base : Nat} {spare : Nat → Bool} {held : Bool}
/-- a list that stands in a list -/
theorem read_list {α : Type} {f : α → List Value} {m : Nat} (hf : ∀ x, (f x).length = m) (hm0 : 0 < m) {g : α → DataW H} {ok : α → Prop} {t e : TypeId} (ht : P.underlying t = some (.slice e)) (hC : P.cellsOf e = m)
    (hread : ∀ (fuel : Nat) (cs : List Value) (x : DataW H × List MemPlace), cs.length = m → DataW.trod enc P w base spare held fuel e cs = some x → ∃ c, cs = f c ∧ x.1 = g c ∧ ok c)
    {fuel : Nat} {cs : List Value} {x : DataW H × List MemPlace} (h : DataW.trod enc P w base spare held fuel t cs = some x) :
    ∃ (A : Option Addr) (len cap : Nat) (l : List α), cs = [.slice A len cap] ∧ l.length = len ∧ len ≤ cap ∧ cap ≤ maxLen ∧ (A = none → len = 0) ∧ Rd w A (l.flatMap f) ∧ (∀ c ∈ l, ok c) ∧ IsList x.1 (l.map g) := by
  rcases open_slice ht h with ⟨hcs, hx⟩ | ⟨a, len0, cap0, k, n, D, Pl, hcs, hb, hl, hm, hmm, hx, hi⟩
  · subst hcs
    rw [hx]
    exact ⟨none, 0, 0, [], rfl, rfl, Nat.le_refl _, Nat.zero_le _, fun _ => rfl, fun hp => absurd hp (by simp), fun c hc => by simp at hc, .inl ⟨rfl, rfl⟩⟩
  · subst hcs
    have hlm : len0 ≤ k := by rw [hmm]; split <;> omega
    obtain ⟨l, hll, hp⟩ := list_of (α := α) len0 (fun i c => (∀ j u, (f c)[j]? = some u → w.cell? (a.add (i * m + j)) = some u) ∧ ok c ∧ D i = g c) (fun i hi' => by
      obtain ⟨cs', hc, htr⟩ := hi i (by omega)
      rw [hC] at hc
      obtain ⟨_, hcl, hat⟩ := World.cells?_some hc
      obtain ⟨c, rfl, hd, hok⟩ := hread _ _ _ hcl htr
      refine ⟨c, fun j u hu => ?_, hok, hd⟩
      have hj : j < m := by
        have := (List.getElem?_eq_some_iff.1 hu).1
        rw [hf] at this; exact this
      have h1 := hat j hj
      rw [Go.Deep.add_add] at h1
      rw [h1]; exact hu)
    refine ⟨some a, len0, cap0, l, rfl, hll, hl, hm, (fun h => by cases h), fun hpos => ?_, fun c hc => ?_, .inr ⟨(List.range (k - len0)).map fun j => D (len0 + j), ?_⟩⟩
    · have hl0 : 0 < l.length := by
        rw [flat_length hf] at hpos
        rcases Nat.eq_zero_or_pos l.length with h | h
        · rw [h, Nat.zero_mul] at hpos; cases hpos
        · exact h
      obtain ⟨u0, hu0⟩ : ∃ u, (f l[0])[0]? = some u := ⟨(f l[0])[0]'(by rw [hf]; exact hm0), List.getElem?_eq_getElem _⟩
      have h0 := (hp 0 hl0).1 0 _ hu0
      have hsp := spot_none h0 (by simp)
      refine ⟨a.block, a.off, ?_, ?_, fun j u hu => ?_⟩
      · obtain ⟨b, o, sp⟩ := a
        simp only at hsp
        subst hsp; rfl
      · have := block_lt_of_cell h0
        rw [add_mk a hsp] at this; exact this
      · have hj := (List.getElem?_eq_some_iff.1 hu).1
        rw [flat_length hf] at hj
        have hq : j / m < l.length := Nat.div_lt_of_lt_mul (by rw [Nat.mul_comm]; exact hj)
        have e : j = j / m * m + j % m := by rw [Nat.mul_comm]; exact (Nat.div_add_mod j m).symm
        rw [e, flat_get hf l (j / m) hq (j % m) (Nat.mod_lt _ hm0)] at hu
        have h1 := (hp (j / m) hq).1 (j % m) u hu
        rw [← e, add_mk a hsp] at h1
        exact h1
    · obtain ⟨i, hi', rfl⟩ := List.getElem_of_mem hc
      exact (hp i hi').2.1
    · rw [hx]
      show DataW.slice _ _ = DataW.slice _ _
      congr 1
      apply List.ext_getElem (by simp [hll])
      intro i h1 h2
      simp only [List.getElem_map, List.getElem_range]
      exact (hp i (by simpa using h2)).2.2
/-- a row that comes in: where it lies, its cells, its datum -/
abbrev RowIn (H : Type) := ((Option Addr × Nat × Nat) × List Cel) × DataW H
abbrev Rw := (Option Addr × Nat × Nat) × List Cel
def rw1 (x : Rw) : List Value := [.slice x.1.1 x.1.2.1 x.1.2.2]
def rwi (x : RowIn H) : List Value := rw1 x.1
/-- a row is read where it lies -/
def RwOk (w : World) (x : Rw) : Prop := x.2.length = x.1.2.1 ∧ x.1.2.1 ≤ x.1.2.2 ∧ (x.1.1 = none → x.1.2.1 = 0) ∧ Rd w x.1.1 (cls x.2)
def okRowIn (w : World) (x : RowIn H) : Prop := RwOk w x.1 ∧ (∀ c ∈ x.1.2, okCel c) ∧ IsList x.2 (x.1.2.map datCel)
theorem read_row {t e : TypeId} {f0 f1 f2 : Field} (ht : P.underlying t = some (.slice e)) (hC : P.cellsOf e = 3) (he : P.underlying e = some (.struct #[f0, f1, f2])) (hone : oneCellFields P #[f0, f1, f2] = true)
    (t0 : P.underlying f0.type = some (.int .i64)) (t1 : P.underlying f1.type = some (.int .u64)) (t2 : P.underlying f2.type = some .string)
    (fuel : Nat) (cs : List Value) (x : DataW H × List MemPlace) (_ : cs.length = 1) (h : DataW.trod enc P w base spare held fuel t cs = some x) :
    ∃ c : RowIn H, cs = rwi c ∧ x.1 = c.2 ∧ okRowIn w c := by
  obtain ⟨A, len, cap, l, rfl, h1, h2, _, h4, h5, h6, h7⟩ := read_list (f := cel3) (m := 3) (fun _ => rfl) (by decide) (g := datCel) (ok := okCel) ht hC (fun fuel cs x hl h => read_cel he hone t0 t1 t2 fuel cs x hl h) h
  exact ⟨(((A, len, cap), l), x.1), rfl, rfl, ⟨h1, h2, h4, h5⟩, h6, h7⟩
/-- rows as cells -/
def rws' (L : List Rw) : List Value := L.flatMap rw1
theorem rws_len (L : List Rw) : (rws' L).length = L.length := by have := flat_length (f := rw1) (m := 1) (fun _ => rfl) L; rw [Nat.mul_one] at this; exact this
theorem rws_in (L : List (RowIn H)) : L.flatMap rwi = rws' (L.map Prod.fst) := by
  induction L with
  | nil => rfl
  | cons x l ih => rw [List.flatMap_cons, ih]; rfl
theorem rws_one (L : List Rw) : ∀ u ∈ rws' L, u.oneCell' = true := fun u hu => by
  obtain ⟨c, _, h⟩ := List.mem_flatMap.1 hu
  simp only [rw1, List.mem_cons, List.not_mem_nil, or_false] at h
  subst h; rfl
theorem Rd.rows {w : World} {A : Option Addr} {L : List Rw} (h : Rd w A (rws' L)) (k : Nat) (hk : k < L.length) :
    ∃ b o, A = some ⟨b, o, none⟩ ∧ b < w.heap.size ∧ ∀ j (hj : j < L.length), w.cell? ⟨b, o + j, none⟩ = some (.slice L[j].1.1 L[j].1.2.1 L[j].1.2.2) := by
  obtain ⟨b, o, e, hb, hc⟩ := h (by rw [rws_len]; omega)
  refine ⟨b, o, e, hb, fun j hj => ?_⟩
  have h1 := flat_get (f := rw1) (m := 1) (fun _ => rfl) L j hj 0 (by decide)
  rw [Nat.mul_one, Nat.add_zero] at h1
  exact hc j _ (h1.trans rfl)
theorem RwOk.keep {w w' : World} {x : Rw} (h : RwOk w x) (hx : Ext w w') : RwOk w' x := ⟨h.1, h.2.1, h.2.2.1, h.2.2.2.keep hx⟩
end
theorem bulk_in {H : Type} (l : List (DataW H)) : ∀ d ∈ l, Go.Proofs.Ytpheegfanljeeaa.Rows.uptoBulk d ≤ Go.Proofs.Ytpheegfanljeeaa.Rows.uptoBulkAll l := by
  induction l with
  | nil => intro d hd; simp at hd
  | cons y l ih =>
    intro d hd
    simp only [Go.Proofs.Ytpheegfanljeeaa.Rows.uptoBulkAll]
    rcases List.mem_cons.1 hd with rfl | hd
    · omega
    · have := ih d hd; omega
theorem bulk_rows {H : Type} {d : DataW H} {l : List (RowIn H)} (h : IsList d (l.map Prod.snd)) (hok : ∀ x ∈ l, IsList x.2 (x.1.2.map datCel)) : l.length ≤ Go.Proofs.Ytpheegfanljeeaa.Rows.uptoBulk d ∧ ∀ x ∈ l, x.1.2.length ≤ Go.Proofs.Ytpheegfanljeeaa.Rows.uptoBulk d := by
  have h1 := bulk_list h
  rw [List.length_map] at h1
  refine ⟨h1, fun x hx => ?_⟩
  have h2 := bulk_list (hok x hx)
  rw [List.length_map] at h2
  rcases h with ⟨rfl, hn⟩ | ⟨sp, rfl⟩
  · have : l = [] := by simpa using hn
    subst this; simp at hx
  · have h3 := bulk_in (l.map Prod.snd) x.2 (List.mem_map.2 ⟨x, hx, rfl⟩)
    simp only [Go.Proofs.Ytpheegfanljeeaa.Rows.uptoBulk]
    omega
end Hy
