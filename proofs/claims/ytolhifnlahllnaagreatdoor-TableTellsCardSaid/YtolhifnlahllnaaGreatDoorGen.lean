/- Words of my own for memory, and small plain facts. No program in sight. lists of numbers: are they one, is one less: plain. append onto a slice of the call's own, from whatever source; a slice of bytes to a string. No program in sight. 'World.grownBy' with one block: all other blocks as they were. a cell of an own row set. copy, clear of elements of several cells, in a row that is known whole; parts of a row of the call's own. No program in sight. Own rows: where they lie, what leaves them as they were; lists that are read, where others are written. No program in sight. Slices of slices, as equations of their run; what the parts read. No program in sight. a record stored whole into a block that is known whole; what is returned out of a block. No program in sight. lists of texts: as cells, opened, one. No program in sight. -/
import Derived.Handy
import Derived.WalkSpells
import Derived.WalkLawsBesides
import Derived.Deep.RegionWith
import Derived.Deep.RegionHeld3
import Derived.Deep.QuietTactic
import Derived.BigQuiet
import Derived.Deep.DeepCutAuto
import Derived.Deep.DeepMust
import Derived.Deep.DeepFit
import Derived.Deep.LoopGhost
import Derived.StillTailTactics
import Derived.Lib.QuietBelow
import Derived.Deep.AppendSrc
import Derived.Deep.AppendLies
import Derived.Deep.DeepAppendWide
import Derived.Laws.CopyOwn
import Derived.Lib.AppendZerosOnto
import Derived.Lib.Overlaps
import Derived.Laws.Tables
import Derived.Laws.ResultCell
section
namespace Hy
open Go Go.RowKit

/-- block g is just the cells cs of element type t; none of them frozen -/
def Blk (w : World) (g : Nat) (t : TypeId) (cs : Array Value) : Prop := w.heap[g]? = some (.cells cs t (0, 0))

section
variable {w w' : World} {g : Nat} {t : TypeId} {cs : Array Value}
theorem Blk.lt (h : Blk w g t cs) : g < w.heap.size := by
  unfold Blk at h
  rcases Nat.lt_or_ge g w.heap.size with hlt | hge
  · exact hlt
  · rw [Array.getElem?_eq_none hge] at h; cases h
theorem Blk.cell (h : Blk w g t cs) (i : Nat) : w.cell? ⟨g, i, none⟩ = cs[i]? := by
  unfold Blk at h; simp [World.cell?, h]
theorem Blk.frozen (h : Blk w g t cs) (i : Nat) : w.frozen? ⟨g, i, none⟩ = false := by
  unfold Blk at h; simp [World.frozen?, h]
theorem Blk.new (w : World) (t : TypeId) (cs : Array Value) : Blk (w.alloc (.cells cs t)) w.heap.size t cs := by
  unfold Blk World.alloc; simp
theorem Blk.drew (h : Blk w g t cs) : Blk w.drew g t cs := h
theorem Blk.drewN (h : Blk w g t cs) (n : Nat) : Blk (w.drewN n) g t cs := h
theorem Blk.alloc (h : Blk w g t cs) (o : Obj) : Blk (w.alloc o) g t cs := (Below.heap_alloc w o g h.lt).trans h
theorem Blk.set (h : Blk w g t cs) (i : Nat) (u : Value) : Blk (w.setCell ⟨g, i, none⟩ u) g t (cs.setIfInBounds i u) := by
  unfold Blk at h ⊢
  simp [World.setCell, Array.getElem?_modify, h]
theorem Blk.far (h : Blk w g t cs) {p : Addr} (hp : g ≠ p.block) (u : Value) : Blk (w.setCell p u) g t cs := (Below.heap_setCell w p u g hp).trans h
theorem Blk.below {B : Nat} (h : Blk w g t cs) (hb : Below B w w') (hg : g < B) : Blk w' g t cs := (hb.block g hg).trans h
end
/-- w' is w with new blocks: all that w had is as it was -/
abbrev Ext (w w' : World) : Prop := Below w.heap.size w w'
section
variable {a w w' : World}
theorem ext_refl (w : World) : Ext w w := Below.refl _ _
theorem Ext.then (h : Ext a w) (k : Ext w w') : Ext a w' := Below.trans h (Below.mono k h.size)
theorem Ext.new (h : Ext a w) (o : Obj) : Ext a (w.alloc o) := Below.alloc h h.size o
theorem Ext.draw (h : Ext a w) : Ext a w.drew := Below.drew h
theorem Ext.draws (h : Ext a w) (n : Nat) : Ext a (w.drewN n) := ⟨h.os, h.tape, h.output, h.size, h.block⟩
theorem Ext.put (h : Ext a w) {p : Addr} (hp : a.heap.size ≤ p.block) (u : Value) : Ext a (w.setCell p u) := Below.setCell h hp u
end
theorem Blk.cast {w : World} {g : Nat} {t : TypeId} {cs cs' : Array Value} (h : Blk w g t cs) (e : cs = cs') : Blk w g t cs' := e ▸ h
theorem Blk.keep {w w' : World} {g : Nat} {t : TypeId} {cs : Array Value} (h : Blk w g t cs) (hb : Ext w w') : Blk w' g t cs := h.below hb h.lt
theorem div_bd (a b : Nat) (K : Int) (h : (a : Int) < K) : 0 ≤ (a : Int) / (b : Int) ∧ (a : Int) / (b : Int) < K := by
  rw [← Int.natCast_ediv]
  have := Nat.div_le_self a b
  generalize a / b = q at *
  omega
theorem below_drewN {B : Nat} {a w : World} (h : Below B a w) (n : Nat) : Below B a (w.drewN n) := ⟨h.os, h.tape, h.output, h.size, h.block⟩
theorem ofInt_i64 (a : Nat) (ha : a < 9223372036854775808) : (BitVec.ofInt 64 (a : Int)).toNat = a := by
  rw [BitVec.ofInt_natCast, BitVec.toNat_ofNat]; exact Nat.mod_eq_of_lt (by omega)
theorem i64_xor_nat (a b : Nat) (ha : a < 9223372036854775808) (hb : b < 9223372036854775808) : bits .xor .i64 (a : Int) (b : Int) = ((a ^^^ b : Nat) : Int) := by
  have hx : a ^^^ b < 2 ^ 63 := Nat.xor_lt_two_pow (by omega) (by omega)
  show IntKind.i64.wrap ((BitVec.ofInt 64 (a : Int) ^^^ BitVec.ofInt 64 (b : Int)).toNat : Int) = _
  rw [BitVec.toNat_xor, ofInt_i64 a ha, ofInt_i64 b hb, IntKind.wrap_i64]
  omega
theorem ret_int {k : IntKind} {a b : Int} (h : a = b) : Ending.returned (.int k a) = .returned (.int k b) := by rw [h]
theorem ret_int2 {k j : IntKind} {a b c d : Int} (h : a = b) (h' : c = d) : Ending.returned (.tuple #[.int k a, .int j c]) = .returned (.tuple #[.int k b, .int j d]) := by rw [h, h']
theorem ret_bool {a b : Bool} (h : a = b) : Ending.returned (.bool a) = .returned (.bool b) := by rw [h]

theorem take_snoc (s : ByteArray) (k : Nat) (h : k < s.size) : s.data.toList.take (k + 1) = s.data.toList.take k ++ [s[k]] := by
  rw [List.take_succ_eq_append_getElem (by simpa using h)]; rfl
theorem ext_list (s : ByteArray) (a b : Nat) : (s.extract a b).data.toList = (s.data.toList.drop a).take (b - a) := by simp [ByteArray.data_extract]
theorem ext_head (s : ByteArray) (b : Nat) : (s.extract 0 b).data.toList = s.data.toList.take b := by rw [ext_list]; simp
theorem ext_tail (s : ByteArray) (a : Nat) : (s.extract a s.size).data.toList = s.data.toList.drop a := by
  rw [ext_list, List.take_of_length_le (by simp)]
theorem app_list (s t : ByteArray) : (s ++ t).data.toList = s.data.toList ++ t.data.toList := by simp
theorem at_list (s : ByteArray) (k : Nat) (h : k < s.size) : s.data.toList = s.data.toList.take k ++ [s[k]] ++ s.data.toList.drop (k + 1) := by
  rw [← take_snoc s k h, List.take_append_drop]
theorem take_all (s : ByteArray) : s.data.toList.take s.size = s.data.toList := List.take_of_length_le (by simp)

/-- behind a region that was walked quietly -/
theorem ext_regrown (w : World) (p : Regrown) : Ext w (Go.Sort.grow (redrawn w p.d) p.os) := below_regrown w p.d p.os
theorem hid {p : Prop} (h : p) : Hid p := h
/-- the world under a name of its own, with what is wanted of it -/
theorem wp_gen {P : Program} {c : Code} {Q : Exit → Act → World → Prop} {a : Act} {W : World} (F : World → Prop) (hF : F W) (h : ∀ w', F w' → Code.wp P c Q a w') : Code.wp P c Q a W := h W hF
/-! ### slices that read as lists of cells -/
def Rd (w : World) (A : Option Addr) (cs : List Value) : Prop :=
  0 < cs.length → ∃ b o, A = some ⟨b, o, none⟩ ∧ b < w.heap.size ∧ ∀ j u, cs[j]? = some u → w.cell? ⟨b, o + j, none⟩ = some u
theorem Rd.keep {w w' : World} {A : Option Addr} {cs : List Value} (h : Rd w A cs) (hb : Ext w w') : Rd w' A cs := fun hp => by
  obtain ⟨b, o, e, hlt, hc⟩ := h hp
  exact ⟨b, o, e, Nat.lt_of_lt_of_le hlt hb.size, fun j u hu => (hb.cell (p := ⟨b, o + j, none⟩) hlt).trans (hc j u hu)⟩
theorem Rd.drop {w : World} {b o : Nat} {cs : List Value} (h : Rd w (some ⟨b, o, none⟩) cs) (k : Nat) : Rd w (some ⟨b, o + k, none⟩) (cs.drop k) := fun hp => by
  obtain ⟨b', o', e, hlt, hc⟩ := h (by simp at hp; omega)
  simp only [Option.some.injEq, Addr.mk.injEq, and_true] at e
  obtain ⟨rfl, rfl⟩ := e
  refine ⟨b, o + k, rfl, hlt, fun j u hu => ?_⟩
  rw [List.getElem?_drop] at hu
  rw [Nat.add_assoc]; exact hc _ u hu
theorem rd_one {w : World} {g : Nat} {v : Value} (h : w.cell? ⟨g, 0, none⟩ = some v) : Rd w (some ⟨g, 0, none⟩) [v] := fun _ => by
  refine ⟨g, 0, rfl, block_lt_of_cell h, fun j u hu => ?_⟩
  match j, hu with
  | 0, hu => simp at hu; subst hu; exact h
theorem rd_new {w : World} {g : Nat} {C : Array Value} {e : TypeId} {fz : Nat × Nat} {cs : List Value} (hg : g = w.heap.size) (h : ∀ (j : Nat) (u : Value), cs[j]? = some u → C[j]? = some u) :
    Rd (w.alloc (.cells C e fz)) (some ⟨g, 0, none⟩) cs := fun _ => by
  subst hg
  refine ⟨w.heap.size, 0, rfl, by simp, fun j u hu => ?_⟩
  have e1 : (w.alloc (.cells C e fz)).heap[w.heap.size]? = some (.cells C e fz) := by unfold World.alloc; simp
  simp only [World.cell?, e1, Nat.zero_add, Option.isSome_none, Bool.false_eq_true, if_false]
  exact h j u hu
theorem rd_bytes {w : World} {g c : Nat} {s : ByteArray} {e : TypeId} {fz : Nat × Nat} (hg : g = w.heap.size) :
    Rd (w.alloc (.cells (bytesRow s c) e fz)) (some ⟨g, 0, none⟩) (s.data.toList.map fun u : UInt8 => Value.int .u8 u.toNat) :=
  rd_new hg fun j u hu => by
    simp only [List.getElem?_map, Option.map_eq_some_iff, Array.getElem?_toList] at hu
    obtain ⟨b, hb, rfl⟩ := hu
    obtain ⟨hj, rfl⟩ := Array.getElem?_eq_some_iff.1 hb
    exact bytesRow_at s c j hj
theorem flat_length {α : Type} {f : α → List Value} {m : Nat} (hf : ∀ x, (f x).length = m) (l : List α) : (l.flatMap f).length = l.length * m := by
  induction l with
  | nil => simp
  | cons x l ih => simp only [List.flatMap_cons, List.length_append, ih, hf, List.length_cons, Nat.succ_mul]; omega
theorem flat_get {α : Type} {f : α → List Value} {m : Nat} (hf : ∀ x, (f x).length = m) (l : List α) (k : Nat) (hk : k < l.length) (j : Nat) (hj : j < m) :
    (l.flatMap f)[k * m + j]? = (f l[k])[j]? := by
  induction l generalizing k with
  | nil => simp at hk
  | cons x l ih =>
    rw [List.flatMap_cons]
    cases k with
    | zero => rw [List.getElem?_append_left (by rw [hf]; omega)]; simp
    | succ k =>
      rw [List.getElem?_append_right (by rw [hf, Nat.succ_mul]; omega), hf, show (k + 1) * m + j - m = k * m + j from by rw [Nat.succ_mul]; omega, ih k (by simpa using hk)]
      simp
theorem Rd.cell3 {α : Type} {w : World} {A : Option Addr} {f : α → List Value} (hf : ∀ x, (f x).length = 3) {l : List α} (h : Rd w A (l.flatMap f)) {k : Nat} (hk : k < l.length) :
    ∃ b o, A = some ⟨b, o, none⟩ ∧ b < w.heap.size ∧ ∀ j u, j < 3 → (f l[k])[j]? = some u → w.cell? ⟨b, o + k * 3 + j, none⟩ = some u := by
  obtain ⟨b, o, e, hb, hc⟩ := h (by rw [flat_length hf]; omega)
  refine ⟨b, o, e, hb, fun j u hj hu => ?_⟩
  rw [Nat.add_assoc]
  exact hc _ u (by rw [flat_get hf l k hk j hj]; exact hu)
/-- the call answers v, in whatever world, and leaves what there was as it was -/
def Gives (P : Program) (f : FuncId) (args : Array Value) (v : Value) : Prop := ∀ w, Calls P f args w fun e w' => e = .returned v ∧ Ext w w'
theorem Gives.quiet {P : Program} {f : FuncId} {args : Array Value} {v : Value} (h : Gives P f args v) (w : World) (d : Nat) (os : Array Obj) :
    Calls P f args (Go.Sort.grow (redrawn w d) os) fun e w'' => e = .returned v ∧ ∃ p : Regrown, w'' = Go.Sort.grow (redrawn w p.d) p.os := Calls.regrown_of (h _)
/-! ### bytes to a string -/
theorem add_none (b o j : Nat) : (Addr.mk b o none).add j = ⟨b, o + j, none⟩ := by
  unfold Addr.add; split
  · rename_i h; subst h; rfl
  · rfl
theorem foldl_push (l : List UInt8) : ∀ s : ByteArray, (l.map (fun u : UInt8 => (u.toNat : Int))).foldl (fun r n => r.push (UInt8.ofNat n.toNat)) s = ⟨s.data ++ l.toArray⟩ := by
  induction l with
  | nil => intro s; simp
  | cons u l ih =>
    intro s
    simp only [List.map_cons, List.foldl_cons, ih]
    simp [ByteArray.push]
theorem run_str {P : Program} {w : World} {src dst e : TypeId} (hs : P.underlying src = some (.slice e)) (he : P.underlying e = some (.int .u8)) (hd : P.underlying dst = some .string)
    (b o len cap : Nat) (l : List UInt8) (hl : l.length = len) (hc : ∀ j u, l[j]? = some u → w.cell? ⟨b, o + j, none⟩ = some (.int .u8 u.toNat)) :
    (convert src dst (.slice (some ⟨b, o, none⟩) len cap)).run P w = .ok (.string ⟨l.toArray⟩) w := by
  rw [run_convert_bytes_string w src dst e _ _ _ hs he hd]
  have h := run_loadCells_list (P := P) (w := w) ⟨b, o, none⟩ ((l.map (fun u : UInt8 => (u.toNat : Int))).map (Value.int .u8)) (fun j v hv => by
    rw [add_none]
    simp only [List.map_map, List.getElem?_map, Option.map_eq_some_iff] at hv
    obtain ⟨u, hu, rfl⟩ := hv
    exact hc j u hu)
  simp only [List.length_map] at h
  rw [hl] at h
  rw [run_bytesToString w _ _ _ _ h, foldl_push]
  simp [ByteArray.empty, ByteArray.emptyWithCapacity]; rfl
theorem run_str1 {P : Program} {src dst e : TypeId} (hs : P.underlying src = some (.slice e)) (he : P.underlying e = some (.int .u8)) (hd : P.underlying dst = some .string)
    (n : Nat) (hn : n < 256) (w : World) : (convert src dst (.slice (some ⟨w.heap.size, 0, none⟩) 1 1)).run P (w.alloc (.cells #[.int .u8 (n : Int)] e)) = .ok (.string ⟨#[UInt8.ofNat n]⟩) (w.alloc (.cells #[.int .u8 (n : Int)] e)) := by
  refine run_str hs he hd _ 0 1 1 [UInt8.ofNat n] rfl (fun j u hj => ?_)
  have hb := (Blk.new w e #[.int .u8 (n : Int)]).cell
  match j, hj with
  | 0, hj =>
    simp at hj; subst hj
    rw [hb]; simp; omega
theorem Blk.ne {w : World} {g g' : Nat} {t t' : TypeId} {cs cs' : Array Value} (h : Blk w g t cs) (h' : Blk w g' t' cs') (hne : t ≠ t') : g ≠ g' := by
  rintro rfl
  unfold Blk at h h'
  rw [h] at h'
  simp only [Option.some.injEq, Obj.cells.injEq] at h'
  exact hne h'.2.1
theorem Blk.newAt {w : World} {g : Nat} {t : TypeId} {cs : Array Value} (h : g = w.heap.size) : Blk (w.alloc (.cells cs t)) g t cs := by subst h; exact Blk.new w t cs
theorem rd_lit {w : World} {g : Nat} {C : Array Value} {e : TypeId} {fz : Nat × Nat} {cs : List Value} (hg : g = w.heap.size) (h : C.toList = cs) : Rd (w.alloc (.cells C e fz)) (some ⟨g, 0, none⟩) cs :=
  rd_new hg fun j u hu => by rw [← Array.getElem?_toList, h]; exact hu
theorem ext_cell {a b : World} {p : Addr} {v : Value} (h : Ext a b) (hc : a.cell? p = some v) : b.cell? p = some v := (h.cell (block_lt_of_cell hc)).trans hc

end Hy
end
section
namespace Hy
def numsLess : List Nat → List Nat → Bool
  | _, [] => false
  | [], _ :: _ => true
  | a :: x, b :: y => decide (a < b) || (decide (a = b) && numsLess x y)
def sameNums (a b : List Nat) : Bool := decide (a = b)
theorem numsLess_step (a b : List Nat) (k : Nat) (h1 : k < a.length) (h2 : k < b.length) (ht : a.take k = b.take k) (e : a[k] = b[k]) : a.take (k + 1) = b.take (k + 1) := by
  rw [List.take_succ_eq_append_getElem h1, List.take_succ_eq_append_getElem h2, ht, e]
theorem numsLess_split : ∀ (k : Nat) (a b : List Nat), a.take k = b.take k → k ≤ a.length → k ≤ b.length → numsLess a b = numsLess (a.drop k) (b.drop k)
  | 0, a, b, _, _, _ => rfl
  | k + 1, [], b, _, h, _ => by simp at h
  | k + 1, a :: x, [], _, _, h => by simp at h
  | k + 1, a :: x, b :: y, ht, h1, h2 => by
    simp only [List.take_succ_cons, List.cons.injEq] at ht
    obtain ⟨rfl, ht⟩ := ht
    simp only [numsLess, Nat.lt_irrefl, decide_false, decide_true, Bool.true_and, Bool.false_or, List.drop_succ_cons]
    exact numsLess_split k x y ht (by simpa using h1) (by simpa using h2)
theorem numsLess_diff (a b : List Nat) (k : Nat) (h1 : k < a.length) (h2 : k < b.length) (ht : a.take k = b.take k) (e : a[k] ≠ b[k]) : numsLess a b = decide (a[k] < b[k]) := by
  rw [numsLess_split k a b ht (by omega) (by omega), List.drop_eq_getElem_cons h1, List.drop_eq_getElem_cons h2, numsLess]
  simp [e]
theorem numsLess_end (a b : List Nat) (ht : a.take (min a.length b.length) = b.take (min a.length b.length)) : numsLess a b = decide (a.length < b.length) := by
  rw [numsLess_split _ a b ht (Nat.min_le_left _ _) (Nat.min_le_right _ _)]
  rcases Nat.lt_or_ge a.length b.length with h | h
  · rw [Nat.min_eq_left (by omega), List.drop_length, List.drop_eq_getElem_cons h]; simp [numsLess, h]
  · rw [Nat.min_eq_right h, List.drop_length]
    have : ¬ a.length < b.length := by omega
    cases a.drop b.length <;> simp [numsLess, this]
end Hy
end
section
namespace Hy
open Go Go.RowKit

/-- a slice type t of element type e: its cells, its bytes -/
structure RowT (P : Program) (t e : TypeId) (size bytes : Nat) : Prop where
  ht : P.underlying t = some (.slice e)
  hi : ∃ i z, P.info? e = some i ∧ i.zero = some z ∧ i.size = size ∧ i.bytes = bytes ∧ z.cells.size = size
  pos : 0 < size
theorem RowT.mk' {P : Program} {t e : TypeId} {z : Value} {size bytes : Nat} (ht : P.underlying t = some (.slice e)) (hi : (P.info? e).map (fun i => (i.zero, i.size, i.bytes)) = some (some z, size, bytes)) (hz : z.cells.size = size) (pos : 0 < size) : RowT P t e size bytes := by
  obtain ⟨i0, h1, h2, h3, h4⟩ := info_parts hi
  exact ⟨ht, ⟨i0, z, h1, h2, h3, h4, hz⟩, pos⟩

section
variable {P : Program} {w : World}
theorem run_app {t tx ty e : TypeId} {size bytes base : Nat} (T : RowT P t e size bytes) (v : Value) (n : Nat) (xs : List Value) (hown : w.ownsRow base e size v n xs)
    (x : Value) (m : Nat) (news : List Value) (hs : Src P size tx x m news w) (h63 : n + m ≤ maxLen) (hbytes : (n + m + (n + m) / 4 + 192) * bytes ≤ 281474976710656) (hbase : base ≤ w.heap.size) :
    ∃ v' w', (Builtin.append_ #[t, tx] ty #[v, x]).run P w = .ok v' w' ∧ w'.ownsRow base e size v' (n + m) (xs ++ news) ∧ w.grownBy w' v.ownBlock ∧
      (v'.ownBlock = v.ownBlock ∨ v'.ownBlock = some w.heap.size) := by
  obtain ⟨ht, ⟨i, z, hi, hz, hsize, hby, hzs⟩, hsz⟩ := T
  subst hsize
  subst hby
  have hl := hs.newsLen
  have hsmall : n + m ≤ 9223372036854775807 := by simp only [maxLen] at h63; omega
  have hlen : (xs ++ news).length = (n + m) * i.size := by rw [List.length_append, hown.1, hl, Nat.add_mul]
  have grown : ∀ (old : Nat), old < n + m → ∀ (row : Option Nat),
      (w.drew.alloc (.cells ((xs ++ news).toArray ++ Builtin.zeroCells z.cells (grownCap w (n + m) old e - (n + m))) e)).ownsRow base e i.size
        (.slice (some ⟨w.heap.size, 0, none⟩) (n + m) (grownCap w (n + m) old e)) (n + m) (xs ++ news) ∧
      w.grownBy (w.drew.alloc (.cells ((xs ++ news).toArray ++ Builtin.zeroCells z.cells (grownCap w (n + m) old e - (n + m))) e)) row := by
    intro old ho row
    have hge := grownCap_ge w (n + m) old e
    have hcm : grownCap w (n + m) old e ≤ maxLen := grownCap_le_maxLen w (n + m) old e h63
    refine ⟨⟨hlen, .inr ⟨w.heap.size, _, _, rfl, hbase, heap_alloc_new w.drew _, hge, hcm, ?_, ?_⟩⟩, ⟨rfl, rfl, rfl, by simp, fun k hk _ => Below.heap_alloc w.drew _ k hk⟩⟩
    · rw [Array.size_append, List.size_toArray, size_zeroCells, hzs, hlen, ← Nat.add_mul]
      congr 1
      omega
    · simp only [Array.toList_append]
      rw [← hlen]
      exact List.take_left
  rcases hown.2 with ⟨rfl, rfl⟩ | ⟨g, cap, cur, rfl, hbg, hg, hnc, hcm, hcs, htake⟩
  · have hx : xs = [] := List.eq_nil_of_length_eq_zero (by simpa using hown.1)
    subst hx
    by_cases hm : m = 0
    · subst hm
      have hn : news = [] := List.eq_nil_of_length_eq_zero (by simpa using hl)
      subst hn
      refine ⟨.slice none 0 0, w, ?_, World.ownsRow_nil w base e i.size, ⟨rfl, rfl, rfl, Nat.le_refl _, fun _ _ _ => rfl⟩, Or.inl rfl⟩
      rcases hs.kind with ⟨e', hk⟩ | hk <;> simp [Builtin.append_, run_underlying ht, run_underlying hk, Go.sizeOf, typeInfo, hi, hs.len, hs.cells]
    · have hr := run_append_grow_src (P := P) w t tx ty e i z ht hi hz none 0 0 [] (run_firstCells_none w.drew i.size 0 0 0) x m news hs (by omega) (by omega) (growslice_fits_wide (by omega) hbytes)
      have hgr := grown 0 (by omega) (Value.ownBlock (.slice none 0 0))
      exact ⟨_, _, hr, hgr.1, hgr.2, Or.inr rfl⟩
  · by_cases hroom : n + m ≤ cap
    · have hfit : n * i.size + news.length ≤ cur.size := by rw [hl, hcs, ← Nat.add_mul]; exact Nat.mul_le_mul_right _ hroom
      have hst := run_storeCells_at P g (n * i.size) e news 0 cur w hg (by simpa using hfit) hs.one
      simp only [Nat.add_zero] at hst
      have hr : (Builtin.append_ #[t, tx] ty #[.slice (some ⟨g, 0, none⟩) n cap, x]).run P w =
          .ok (.slice (some ⟨g, 0, none⟩) (n + m) cap) (w.setRow g (cur.toList.take (n * i.size) ++ news ++ cur.toList.drop (n * i.size + news.length)).toArray) := by
        rcases hs.kind with ⟨e', hk⟩ | hk <;> simp [Builtin.append_, run_underlying ht, run_underlying hk, Go.sizeOf, typeInfo, hi, hs.len, hroom, hs.cells, Addr.add_lit, hst]
      refine ⟨_, _, hr, ⟨hlen, .inr ⟨g, cap, _, rfl, hbg, setRow_heap w g cur _ e _ hg, hroom, hcm, ?_, ?_⟩⟩, ⟨rfl, rfl, rfl, by simp, fun k _ hk => setRow_other w g k _ (fun e => hk (by simp [Value.ownBlock, e]))⟩, Or.inl rfl⟩
      · simp only [List.size_toArray, List.length_append, List.length_take, List.length_drop, Array.length_toList]
        omega
      · rw [htake, ← hlen]
        exact List.take_left
    · have holds : ∀ j u, xs[j]? = some u → w.cell? ((⟨g, 0, none⟩ : Addr).add j) = some u := hown.cells (g := g) rfl
      have hr := run_append_grow_src (P := P) w t tx ty e i z ht hi hz (some ⟨g, 0, none⟩) n cap xs (run_firstCells_some w.drew i.size n ⟨g, 0, none⟩ n cap xs hown.1 (by simpa using holds)) x m news hs (by omega) (by omega) (growslice_fits_wide (by omega) hbytes)
      have hgr := grown cap (by omega) (Value.ownBlock (.slice (some ⟨g, 0, none⟩) n cap))
      exact ⟨_, _, hr, hgr.1, hgr.2, Or.inr rfl⟩

theorem grown_below {base : Nat} {e : TypeId} {size : Nat} {v : Value} {n : Nat} {xs : List Value} {w' : World} (hown : w.ownsRow base e size v n xs) (hg : w.grownBy w' v.ownBlock) (hbase : base ≤ w.heap.size) : Below base w w' :=
  (Below.refl base w).grown hg hbase fun k hk => (hown.lt k hk).1

/-- at the operation -/
theorem wp_app {o : Oper} {a : Act} {K : Act → World → Prop} {Q : Exit → Act → World → Prop} (s x : Operand) {t tx e : TypeId} {size bytes base : Nat} (T : RowT P t e size bytes)
    (ho : o.op = .call { callee := .builtin .append, args := #[s, x], argTypes := #[t, tx] })
    (v : Value) (n : Nat) (xs : List Value) (hs : a.eval s = v) (hown : w.ownsRow base e size v n xs) (xv : Value) (m : Nat) (news : List Value) (hx : a.eval x = xv) (hsrc : Src P size tx xv m news w)
    (h63 : n + m ≤ maxLen) (hbytes : (n + m + (n + m) / 4 + 192) * bytes ≤ 281474976710656) (hbase : base ≤ w.heap.size)
    (h : ∀ v' w', w'.ownsRow base e size v' (n + m) (xs ++ news) → w.grownBy w' v.ownBlock → (v'.ownBlock = v.ownBlock ∨ v'.ownBlock = some w.heap.size) → Below base w w' → K (a.put o.dst v') w') : o.wp P a w K Q := by
  obtain ⟨v', w', hr, h2, h3, h4⟩ := run_app (ty := o.type) T v n xs hown xv m news hsrc h63 hbytes hbase
  unfold Oper.wp execOp
  simp only [ho, resolve, invoke, builtin, Sem.run_bind, Sem.run_pure, Result.andThen_ok, List.map_toArray, List.map_cons, List.map_nil, hs, hx, hr]
  exact h v' w' h2 h3 h4 (grown_below hown h3 hbase)
theorem wpList_app {ops : Array Oper} {rest : List Oper} {o : Oper} {a : Act} {Q : Exit → Act → World → Prop} (hgd : o.guard = none) (s x : Operand) {t tx e : TypeId} {size bytes base : Nat} (T : RowT P t e size bytes)
    (ho : o.op = .call { callee := .builtin .append, args := #[s, x], argTypes := #[t, tx] })
    (v : Value) (n : Nat) (xs : List Value) (hs : a.eval s = v) (hown : w.ownsRow base e size v n xs) (xv : Value) (m : Nat) (news : List Value) (hx : a.eval x = xv) (hsrc : Src P size tx xv m news w)
    (h63 : n + m ≤ maxLen) (hbytes : (n + m + (n + m) / 4 + 192) * bytes ≤ 281474976710656) (hbase : base ≤ w.heap.size)
    (h : ∀ v' w', w'.ownsRow base e size v' (n + m) (xs ++ news) → w.grownBy w' v.ownBlock → (v'.ownBlock = v.ownBlock ∨ v'.ownBlock = some w.heap.size) → Below base w w' → wpList P ops Q rest (a.put o.dst v') w') : wpList P ops Q (o :: rest) a w :=
  wpList_plain hgd fun _ hK => wp_app s x T ho v n xs hs hown xv m news hx hsrc h63 hbytes hbase fun v' w' h2 h3 h4 h5 => hK _ _ (h v' w' h2 h3 h4 h5)
/-- at a step of a region that draws its order -/
theorem step_app {ops : Array Oper} {o : Oper} {a : Act} {K : Act → World → Prop} {Q : Exit → Act → World → Prop} {E : Prop} (hw : Region.wanted o (yielded ops a.tmps) = true) (s x : Operand) {t tx e : TypeId} {size bytes base : Nat} (T : RowT P t e size bytes)
    (ho : o.op = .call { callee := .builtin .append, args := #[s, x], argTypes := #[t, tx] })
    (v : Value) (n : Nat) (xs : List Value) (hs : a.eval s = v) (hown : w.ownsRow base e size v n xs) (xv : Value) (m : Nat) (news : List Value) (hx : a.eval x = xv) (hsrc : Src P size tx xv m news w)
    (h63 : n + m ≤ maxLen) (hbytes : (n + m + (n + m) / 4 + 192) * bytes ≤ 281474976710656) (hbase : base ≤ w.heap.size)
    (h : ∀ v' w', w'.ownsRow base e size v' (n + m) (xs ++ news) → w.grownBy w' v.ownBlock → (v'.ownBlock = v.ownBlock ∨ v'.ownBlock = some w.heap.size) → Below base w w' → K (a.put o.dst v') w') :
    if Region.wanted o (yielded ops a.tmps) = true then Oper.wp P o a w K Q else E := by
  rw [if_pos hw]
  exact wp_app s x T ho v n xs hs hown xv m news hx hsrc h63 hbytes hbase h

theorem own_new {e : TypeId} {size base n : Nat} {C : Array Value} {g : Nat} (hg : g = w.heap.size) (hC : C.size = n * size) (hb : base ≤ w.heap.size) (hn : n ≤ maxLen) :
    (w.alloc (.cells C e)).ownsRow base e size (.slice (some ⟨g, 0, none⟩) n n) n C.toList := by
  subst hg
  refine ⟨by simpa using hC, .inr ⟨w.heap.size, n, C, rfl, hb, by unfold World.alloc; simp, Nat.le_refl _, hn, hC, ?_⟩⟩
  rw [← hC]; exact List.take_of_length_le (by simp)
/-- 'x[:h]', x an array -/
theorem run_arr_h {t e : TypeId} {n : Nat} (hu : P.underlying t = some (.array n e)) (hi : (P.info? e).isSome = true) (g : Nat) (k : IntKind) (h : Nat) (hh : h ≤ n) :
    (Instr.sliceAt t (.pointer (some ⟨g, 0, none⟩)) none (some (.int k (h : Int))) none).run P w = .ok (.slice (some ⟨g, 0, none⟩) h n) w := by
  obtain ⟨i, hi⟩ := Option.isSome_iff_exists.1 hi
  have hl : P.arrayLen t = n := by unfold Program.arrayLen; rw [hu]
  have he : P.elem t = e := by unfold Program.elem; rw [hu]
  have h0 := run_sliceAt_array_h (P := P) w t ⟨g, 0, none⟩ (by rw [hl, he]; exact hu) k (h : Int) (by omega) (by rw [hl]; omega)
  rw [h0, hl, he]
  simp [Go.sizeOf, typeInfo, hi, slicedAt, add_none]
theorem str_cons (a : UInt8) (l : List UInt8) : (⟨#[a]⟩ : ByteArray) ++ ⟨l.toArray⟩ = ⟨(a :: l).toArray⟩ := by
  apply ByteArray.ext; simp
theorem str_app (l m : List UInt8) : (⟨l.toArray⟩ : ByteArray) ++ ⟨m.toArray⟩ = ⟨(l ++ m).toArray⟩ := by
  apply ByteArray.ext; simp
theorem str_size (l : List UInt8) : (⟨l.toArray⟩ : ByteArray).size = l.length := by simp [ByteArray.size]
theorem str_self (s : ByteArray) : (⟨s.data.toList.toArray⟩ : ByteArray) = s := by simp
/-! ### strings, by their lists -/
theorem run_ix {t : TypeId} (hu : P.underlying t = some .string) (s : ByteArray) (k : IntKind) (i : Nat) (c : UInt8) (hc : s.data.toList[i]? = some c) :
    (Instr.index t (.string s) (.int k (i : Int))).run P w = .ok (.int .u8 c.toNat) w := by
  obtain ⟨h, hb⟩ := List.getElem?_eq_some_iff.1 hc
  have h' : i < s.size := by rw [Array.length_toList] at h; exact h
  rw [run_index_string w t s k i hu, dif_pos (by omega)]
  subst hb
  rfl
theorem run_ix0 {t : TypeId} (hu : P.underlying t = some .string) (s : ByteArray) (k : IntKind) (c : UInt8) (l : List UInt8) (hc : s.data.toList = c :: l) :
    (Instr.index t (.string s) (.int k 0)).run P w = .ok (.int .u8 c.toNat) w := run_ix hu s k 0 c (by rw [hc]; rfl)
theorem run_from {t : TypeId} (hu : P.underlying t = some .string) (s : ByteArray) (k : IntKind) (i : Nat) (h : i ≤ s.size) :
    (Instr.slice t (.string s) (some (.int k (i : Int))) none none).run P w = .ok (.string ⟨(s.data.toList.drop i).toArray⟩) w := by
  rw [run_slice_string_from_if w t s k i hu, if_pos (by omega)]
  congr 2
  apply ByteArray.ext; apply Array.ext'; rw [ext_tail]; rfl
theorem run_to {t : TypeId} (hu : P.underlying t = some .string) (s : ByteArray) (k : IntKind) (j : Nat) (h : j ≤ s.size) :
    (Instr.slice t (.string s) none (some (.int k (j : Int))) none).run P w = .ok (.string ⟨(s.data.toList.take j).toArray⟩) w := by
  rw [run_slice_string_to_if w t s k j hu, if_pos (by omega)]
  congr 2
  apply ByteArray.ext; apply Array.ext'; rw [Int.toNat_natCast, ext_head]
theorem run_fromto {t : TypeId} (hu : P.underlying t = some .string) (s : ByteArray) (k k' : IntKind) (i j : Nat) (hi : i ≤ j) (h : j ≤ s.size) :
    (Instr.slice t (.string s) (some (.int k (i : Int))) (some (.int k' (j : Int))) none).run P w = .ok (.string ⟨((s.data.toList.drop i).take (j - i)).toArray⟩) w := by
  rw [run_slice_string_if w t s k k' i j hu, if_pos (by omega), if_pos (by omega)]
  congr 2
  apply ByteArray.ext; apply Array.ext'; rw [Int.toNat_natCast, Int.toNat_natCast, ext_list]
theorem xor_all : ∀ c : Fin 256, bits BinOp.xor IntKind.u8 IntKind.u8.max (c.val : Int) = 255 - (c.val : Int) := by decide +kernel
theorem xor_u8 (c : UInt8) : bits BinOp.xor IntKind.u8 IntKind.u8.max (c.toNat : Int) = 255 - (c.toNat : Int) := xor_all ⟨c.toNat, c.toNat_lt⟩
theorem or_byte (x b : Nat) (hx : x ≤ 72057594037927935) (hb : b < 256) : bits .or .u64 ((x : Int) * 256) (b : Int) = ((x * 256 + b : Nat) : Int) := by
  have h1 : (BitVec.ofInt 64 ((x : Int) * 256)).toNat = x * 256 := by
    rw [show ((x : Int) * 256) = ((x * 256 : Nat) : Int) from by simp, BitVec.ofInt_natCast, BitVec.toNat_ofNat]
    exact Nat.mod_eq_of_lt (by omega)
  have h2 : (BitVec.ofInt 64 (b : Int)).toNat = b := by
    rw [BitVec.ofInt_natCast, BitVec.toNat_ofNat]; exact Nat.mod_eq_of_lt (by omega)
  have h3 : x * 256 ||| b = x * 256 + b := by
    have := Nat.two_pow_add_eq_or_of_lt (i := 8) (b := b) hb x
    rw [Nat.mul_comm x 256]; exact this.symm
  show IntKind.u64.wrap ((BitVec.ofInt 64 ((x : Int) * 256) ||| BitVec.ofInt 64 (b : Int)).toNat : Int) = _
  rw [BitVec.toNat_or, h1, h2, h3]
  show ((x * 256 + b : Nat) : Int) % 18446744073709551616 = _
  omega
theorem ofNat_mod (m : Nat) : UInt8.ofNat (m % 256) = UInt8.ofNat m := by
  apply UInt8.toNat.inj; rw [UInt8.toNat_ofNat', UInt8.toNat_ofNat']; omega
/-- numbers as cells -/
def u64s (l : List Nat) : List Value := l.map fun n : Nat => Value.int .u64 (n : Int)
theorem u64s_len (l : List Nat) : (u64s l).length = l.length := by simp [u64s]
theorem u64s_one (l : List Nat) : ∀ u ∈ u64s l, u.oneCell' = true := fun u hu => by
  obtain ⟨_, _, rfl⟩ := List.mem_map.1 hu; rfl
theorem u64s_app (l m : List Nat) : u64s (l ++ m) = u64s l ++ u64s m := by simp [u64s]
theorem u64s_take (l : List Nat) (k : Nat) : (u64s l).take k = u64s (l.take k) := by simp [u64s]
theorem u64s_get (l : List Nat) (k : Nat) (h : k < l.length) : (u64s l)[k]? = some (.int .u64 ((l[k] : Nat) : Int)) := by simp [u64s, h]
/-- where the cells of a list of numbers lie -/
theorem Rd.nums {w : World} {A : Option Addr} {l : List Nat} (h : Rd w A (u64s l)) (k : Nat) (hk : k < l.length) :
    ∃ b o, A = some ⟨b, o, none⟩ ∧ b < w.heap.size ∧ ∀ j (hj : j < l.length), w.cell? ⟨b, o + j, none⟩ = some (.int .u64 ((l[j] : Nat) : Int)) := by
  obtain ⟨b, o, e, hb, hc⟩ := h (by rw [u64s_len]; omega)
  exact ⟨b, o, e, hb, fun j hj => hc j _ (u64s_get l j hj)⟩
/-- bytes as cells -/
def u8s (l : List UInt8) : List Value := l.map fun u => Value.int .u8 u.toNat
theorem u8s_len (l : List UInt8) : (u8s l).length = l.length := by simp [u8s]
theorem u8s_one (l : List UInt8) : ∀ u ∈ u8s l, u.oneCell' = true := fun u hu => by
  obtain ⟨_, _, rfl⟩ := List.mem_map.1 hu; rfl
theorem u8s_app (l m : List UInt8) : u8s (l ++ m) = u8s l ++ u8s m := by simp [u8s]
theorem u8s_set (l : List UInt8) (i z : Nat) (hz : z < 256) : (u8s l).set i (.int .u8 (z : Int)) = u8s (l.set i (UInt8.ofNat z)) := by
  unfold u8s
  rw [List.map_set, UInt8.toNat_ofNat', Nat.mod_eq_of_lt hz]
theorem u8s_string (s : ByteArray) : byteCells s = u8s s.data.toList := rfl
theorem Src.ofList {tx : TypeId} (hk : P.underlying tx = some .string) (l : List UInt8) : Src P 1 tx (.string ⟨l.toArray⟩) l.length (u8s l) w := by
  have h := Src.ofString (P := P) (w := w) hk ⟨l.toArray⟩
  rw [str_size, u8s_string] at h
  exact h
theorem own_ext {base : Nat} {e : TypeId} {size : Nat} {v : Value} {n : Nat} {xs : List Value} {w' : World} (h : w.ownsRow base e size v n xs) (hx : Ext w w') : w'.ownsRow base e size v n xs := by
  refine ⟨h.1, ?_⟩
  rcases h.2 with h | ⟨g, cap, cur, hv, hb, hg, r⟩
  · exact .inl h
  · refine .inr ⟨g, cap, cur, hv, hb, ?_, r⟩
    have hlt : g < w.heap.size := by
      rcases Nat.lt_or_ge g w.heap.size with hlt | hge
      · exact hlt
      · rw [Array.getElem?_eq_none hge] at hg; cases hg
    rw [hx.block g hlt]; exact hg
theorem Src.rd {size : Nat} {tx e' : TypeId} (hk : P.underlying tx = some (.slice e')) (A : Option Addr) (n c : Nat) (news : List Value) (hl : news.length = n * size) (hr : Rd w A news)
    (h1 : ∀ u ∈ news, u.oneCell' = true) (hA : A = none → n = 0) : Src P size tx (.slice A n c) n news w := by
  cases A with
  | none =>
    obtain rfl := hA rfl
    obtain rfl : news = [] := List.eq_nil_of_length_eq_zero (by simpa using hl)
    exact Src.ofNil w hk c
  | some a =>
    refine Src.ofSlice w hk a n c news hl (fun j u hu => ?_) h1
    have hj : 0 < news.length := by
      rcases Nat.eq_zero_or_pos news.length with h0 | h0
      · rw [List.eq_nil_of_length_eq_zero h0] at hu; simp at hu
      · exact h0
    obtain ⟨b, o, e, _, hc⟩ := hr hj
    cases e
    rw [add_none]; exact hc j u hu
/-- what is owned is read -/
theorem Rd.owned {base : Nat} {e : TypeId} {size : Nat} {v : Value} {n : Nat} {xs : List Value} (hown : w.ownsRow base e size v n xs) :
    ∃ A cap, v = .slice A n cap ∧ Rd w A xs ∧ (A = none → n = 0) ∧ n ≤ cap ∧ cap ≤ maxLen := by
  rcases hown.2 with ⟨rfl, rfl⟩ | ⟨g, cap, cur, rfl, hbg, hg, hnc, hcm, hcs, htake⟩
  · refine ⟨none, 0, rfl, fun h => ?_, fun _ => rfl, Nat.le_refl _, Nat.zero_le _⟩
    have := hown.1; simp at this; subst this; simp at h
  · refine ⟨some ⟨g, 0, none⟩, cap, rfl, fun _ => ⟨g, 0, rfl, ?_, fun j u hu => ?_⟩, fun h => (by cases h), hnc, hcm⟩
    · rcases Nat.lt_or_ge g w.heap.size with hlt | hge
      · exact hlt
      · rw [Array.getElem?_eq_none hge] at hg; cases hg
    · have := hown.cells (g := g) rfl j u hu
      rw [add_none] at this; exact this
theorem run_str_rd {src dst e : TypeId} (hs : P.underlying src = some (.slice e)) (he : P.underlying e = some (.int .u8)) (hd : P.underlying dst = some .string)
    (A : Option Addr) (n cap : Nat) (l : List UInt8) (hl : l.length = n) (hr : Rd w A (u8s l)) (hA : A = none → n = 0) :
    (convert src dst (.slice A n cap)).run P w = .ok (.string ⟨l.toArray⟩) w := by
  cases A with
  | none =>
    obtain rfl := hA rfl
    obtain rfl := List.eq_nil_of_length_eq_zero hl
    rw [run_convert_bytes_string w src dst e _ _ _ hs he hd]
    simp [Conv.bytesToString]
    rfl
  | some a =>
    rcases Nat.eq_zero_or_pos n with h0 | h0
    · subst h0
      obtain rfl := List.eq_nil_of_length_eq_zero hl
      rw [run_convert_bytes_string w src dst e _ _ _ hs he hd]
      simp [Conv.bytesToString, loadCells, loadCellsFrom]
      rfl
    · obtain ⟨b, o, e', _, hc⟩ := hr (by rw [u8s_len, hl]; exact h0)
      cases e'
      exact run_str hs he hd b o n cap l hl (fun j u hu => hc j _ (by simp [u8s, hu]))
theorem run_str_own {src dst e : TypeId} (hs : P.underlying src = some (.slice e)) (he : P.underlying e = some (.int .u8)) (hd : P.underlying dst = some .string)
    {base n : Nat} {v : Value} {l : List UInt8} (hown : w.ownsRow base e 1 v n (u8s l)) : (convert src dst v).run P w = .ok (.string ⟨l.toArray⟩) w := by
  obtain ⟨A, cap, rfl, hr, hA, _⟩ := Rd.owned hown
  exact run_str_rd hs he hd A n cap l (by have := hown.1; rw [u8s_len] at this; omega) hr hA
/-- a list of numbers in new memory, and an error -/
def NumsOut (l : List Nat) (err : Nat) (w : World) (e : Ending) (w' : World) : Prop := ∃ A cap, e = .returned (.tuple #[.slice A l.length cap, .int .i64 err]) ∧ Rd w' A (u64s l) ∧ Ext w w'
end
end Hy
end
section
namespace Hy
open Go Go.RowKit
abbrev But (g : Nat) (w w' : World) : Prop := w.grownBy w' (some g)
variable {w w' w'' : World} {g : Nat}
theorem but_refl (g : Nat) (w : World) : But g w w := ⟨rfl, rfl, rfl, Nat.le_refl _, fun _ _ _ => rfl⟩
theorem But.ext (h : But g w w') (k : Ext w' w'') : But g w w'' :=
  ⟨k.os.trans h.os, k.tape.trans h.tape, k.output.trans h.output, Nat.le_trans h.size k.size, fun i hi hn => (k.block i (Nat.lt_of_lt_of_le hi h.size)).trans (h.block i hi hn)⟩
theorem But.new (h : But g w w') (o : Obj) : But g w (w'.alloc o) := h.ext ((ext_refl w').new o)
theorem But.draws (h : But g w w') (n : Nat) : But g w (w'.drewN n) := ⟨h.os, h.tape, h.output, h.size, h.block⟩
theorem But.put (h : But g w w') (p : Addr) (hp : p.block = g ∨ w.heap.size ≤ p.block) (u : Value) : But g w (w'.setCell p u) := by
  have hb := fun i (hi : i ≠ p.block) => Below.heap_setCell w' p u i hi
  have hs : (w'.setCell p u).heap.size = w'.heap.size := by
    unfold World.setCell; split <;> simp
  refine ⟨?_, ?_, ?_, by rw [hs]; exact h.size, fun i hi hn => ?_⟩
  · rw [show (w'.setCell p u).os = w'.os from by unfold World.setCell; split <;> rfl]; exact h.os
  · rw [show (w'.setCell p u).tape = w'.tape from by unfold World.setCell; split <;> rfl]; exact h.tape
  · rw [show (w'.setCell p u).output = w'.output from by unfold World.setCell; split <;> rfl]; exact h.output
  · rw [hb i (fun e => by
      rcases hp with hp | hp
      · exact hn (by rw [e, hp])
      · omega)]
    exact h.block i hi hn
theorem But.below (h : But g w w') {base : Nat} (hg : base ≤ g) (hw : base ≤ w.heap.size) : Below base w w' :=
  ⟨h.os, h.tape, h.output, h.size, fun k hk => h.block k (by omega) (by intro e; injection e with e; omega)⟩
theorem own_but {base : Nat} {e : TypeId} {size : Nat} {v : Value} {n : Nat} {xs : List Value} (h : w.ownsRow base e size v n xs) (hx : But g w w') (hg : g < base) : w'.ownsRow base e size v n xs := by
  refine ⟨h.1, ?_⟩
  rcases h.2 with h | ⟨b, cap, cur, hv, hb, hgg, r⟩
  · exact .inl h
  · refine .inr ⟨b, cap, cur, hv, hb, ?_, r⟩
    have hlt : b < w.heap.size := by
      rcases Nat.lt_or_ge b w.heap.size with hlt | hge
      · exact hlt
      · rw [Array.getElem?_eq_none hge] at hgg; cases hgg
    rw [hx.block b hlt (by intro e; injection e with e; omega)]; exact hgg
end Hy
end
section
namespace Hy
open Go Go.RowKit
theorem own_set {w : World} {base : Nat} {e : TypeId} {size : Nat} {v : Value} {n : Nat} {xs : List Value} {g c : Nat} (h : w.ownsRow base e size v n xs) (hv : v = .slice (some ⟨g, 0, none⟩) n c) (i : Nat) (u : Value) :
    (w.setCell ⟨g, i, none⟩ u).ownsRow base e size v n (xs.set i u) := by
  refine ⟨by rw [List.length_set]; exact h.1, ?_⟩
  rcases h.2 with ⟨h, _⟩ | ⟨b, cap, cur, hv2, hb, hg, h1, h2, h3, h4⟩
  · rw [hv] at h; cases h
  · rw [hv] at hv2
    injection hv2 with ha _ hcap
    injection ha with ha
    injection ha with ha
    subst ha hcap
    have B : Blk w g e cur := hg
    refine .inr ⟨g, c, cur.setIfInBounds i u, hv, hb, B.set i u, h1, h2, by simpa using h3, ?_⟩
    rw [← h4, Array.toList_setIfInBounds, List.take_set]
end Hy
end
section
namespace Hy
open Go Go.RowKit
section
variable {P : Program} {w : World}
theorem run_copy_none_m (dT sT ty elem : TypeId) (m : Nat) (d a : Option Addr) (dLen dCap sLen sCap : Nat) (hu : P.underlying dT = some (.slice elem)) (hs : (P.info? elem).map (·.size) = some m) (hn : Nat.min sLen dLen = 0) :
    (Builtin.copy_ #[dT, sT] ty #[.slice d dLen dCap, .slice a sLen sCap]).run P w = .ok (goInt 0) w := by
  cases hq : P.info? elem with
  | none => simp [hq] at hs
  | some i =>
    have hl : ∀ (x : Addr), (loadCells x 0).run P w = .ok #[] w := fun x => by simpa using run_loadCells_list (P := P) w x [] (by simp)
    cases d <;> cases a <;> simp [Builtin.copy_, run_underlying hu, Builtin.lenOf, Builtin.firstCells, Go.sizeOf, typeInfo, hq, hn, storeCells, hl]
theorem run_copy_row_m (dT sT ty elem : TypeId) (m q : Nat) (g o dLen dCap : Nat) (a : Addr) (sLen sCap : Nat) (cur : Array Value) (t : TypeId) (cs : List Value)
    (hu : P.underlying dT = some (.slice elem)) (hs : (P.info? elem).map (·.size) = some m)
    (hg : w.heap[g]? = some (.cells cur t (0, 0))) (hq : q = Nat.min sLen dLen) (hn : cs.length = q * m)
    (hsrc : ∀ j v, cs[j]? = some v → w.cell? (a.add j) = some v) (hfit : o + cs.length ≤ cur.size) (h1 : ∀ v ∈ cs, v.oneCell' = true) :
    (Builtin.copy_ #[dT, sT] ty #[.slice (some ⟨g, o, none⟩) dLen dCap, .slice (some a) sLen sCap]).run P w =
      .ok (goInt q) (w.setRow g (cur.toList.take o ++ cs ++ cur.toList.drop (o + cs.length)).toArray) := by
  have hl := run_loadCells_list (P := P) w a cs hsrc
  have hst := run_storeCells_at P g o t cs 0 cur w hg (by simpa using hfit) h1
  cases hi : P.info? elem with
  | none => simp [hi] at hs
  | some i =>
    have hm : i.size = m := by simpa [hi] using hs
    simp [Builtin.copy_, run_underlying hu, Builtin.lenOf, Builtin.firstCells, Go.sizeOf, typeInfo, hi, hm, ← hq, ← hn, hl, hst]
/-- a copy into a block g that is known whole, laid at 'off' -/
theorem run_copy_m (dT sT ty elem : TypeId) (m q : Nat) (dp sp : Option Addr) (dLen dCap sLen sCap : Nat) (g off : Nat) (cur : List Value) (t : TypeId) (cs : List Value)
    (hu : P.underlying dT = some (.slice elem)) (hsz : (P.info? elem).map (·.size) = some m) (hg : w.heap[g]? = some (.cells cur.toArray t (0, 0))) (hq : q = Nat.min sLen dLen) (hn : cs.length = q * m)
    (hpos : 0 < q → dp = some ⟨g, off, none⟩ ∧ ∃ ad, sp = some ad ∧ ∀ j v, cs[j]? = some v → w.cell? (ad.add j) = some v)
    (hfit : off + cs.length ≤ cur.length) (h1 : ∀ v ∈ cs, v.oneCell' = true) :
    ∃ w', (Builtin.copy_ #[dT, sT] ty #[.slice dp dLen dCap, .slice sp sLen sCap]).run P w = .ok (goInt q) w' ∧ w'.heap[g]? = some (.cells (splice cur off cs).toArray t (0, 0)) ∧ w.grownBy w' (some g) := by
  by_cases h0 : q = 0
  · subst h0
    obtain rfl : cs = [] := List.eq_nil_of_length_eq_zero (by simpa using hn)
    exact ⟨w, run_copy_none_m dT sT ty elem m dp sp dLen dCap sLen sCap hu hsz hq.symm, by simpa [splice] using hg, ⟨rfl, rfl, rfl, Nat.le_refl _, fun _ _ _ => rfl⟩⟩
  · obtain ⟨rfl, ad, rfl, hsrc⟩ := hpos (by omega)
    refine ⟨_, run_copy_row_m dT sT ty elem m q g off dLen dCap ad sLen sCap cur.toArray t cs hu hsz hg hq hn hsrc (by simpa using hfit) h1, ?_, ?_⟩
    · simpa [splice] using setRow_heap w g _ _ t _ hg
    · exact ⟨rfl, rfl, rfl, by simp, fun k _ hk => setRow_other w g k _ (fun e => hk (by rw [e]))⟩
theorem wp_copy_m {o : Oper} {a : Act} {K : Act → World → Prop} {Q : Exit → Act → World → Prop} (d s : Operand) (dT sT : TypeId)
    (ho : o.op = .call { callee := .builtin .copy, args := #[d, s], argTypes := #[dT, sT] }) (elem : TypeId) (m q : Nat) (dp sp : Option Addr) (dLen dCap sLen sCap : Nat) (hd : a.eval d = .slice dp dLen dCap) (hs : a.eval s = .slice sp sLen sCap) (g off : Nat) (cur : List Value) (t : TypeId) (cs : List Value)
    (hu : P.underlying dT = some (.slice elem)) (hsz : (P.info? elem).map (·.size) = some m) (hg : w.heap[g]? = some (.cells cur.toArray t (0, 0))) (hq : q = Nat.min sLen dLen) (hn : cs.length = q * m)
    (hpos : 0 < q → dp = some ⟨g, off, none⟩ ∧ ∃ ad, sp = some ad ∧ ∀ j v, cs[j]? = some v → w.cell? (ad.add j) = some v)
    (hfit : off + cs.length ≤ cur.length) (h1 : ∀ v ∈ cs, v.oneCell' = true)
    (h : ∀ w', Hid (w'.heap[g]? = some (.cells (splice cur off cs).toArray t (0, 0))) → Hid (w.grownBy w' (some g)) → K (a.put o.dst (goInt q)) w') : o.wp P a w K Q := by
  obtain ⟨w', hr, h2, h3⟩ := run_copy_m (P := P) (w := w) dT sT o.type elem m q dp sp dLen dCap sLen sCap g off cur t cs hu hsz hg hq hn hpos hfit h1
  unfold Oper.wp execOp
  simp only [ho, resolve, invoke, builtin, Sem.run_bind, Sem.run_pure, Result.andThen_ok, List.map_toArray, List.map_cons, List.map_nil, hd, hs, hr]
  exact h w' h2 h3
theorem wpList_copy_m {ops : Array Oper} {rest : List Oper} {o : Oper} {a : Act} {Q : Exit → Act → World → Prop} (hgd : o.guard = none) (d s : Operand) (dT sT : TypeId)
    (ho : o.op = .call { callee := .builtin .copy, args := #[d, s], argTypes := #[dT, sT] }) (elem : TypeId) (m q : Nat) (dp sp : Option Addr) (dLen dCap sLen sCap : Nat) (hd : a.eval d = .slice dp dLen dCap) (hs : a.eval s = .slice sp sLen sCap) (g off : Nat) (cur : List Value) (t : TypeId) (cs : List Value)
    (hu : P.underlying dT = some (.slice elem)) (hsz : (P.info? elem).map (·.size) = some m) (hg : w.heap[g]? = some (.cells cur.toArray t (0, 0))) (hq : q = Nat.min sLen dLen) (hn : cs.length = q * m)
    (hpos : 0 < q → dp = some ⟨g, off, none⟩ ∧ ∃ ad, sp = some ad ∧ ∀ j v, cs[j]? = some v → w.cell? (ad.add j) = some v)
    (hfit : off + cs.length ≤ cur.length) (h1 : ∀ v ∈ cs, v.oneCell' = true)
    (h : ∀ w', Hid (w'.heap[g]? = some (.cells (splice cur off cs).toArray t (0, 0))) → Hid (w.grownBy w' (some g)) → wpList P ops Q rest (a.put o.dst (goInt q)) w') : wpList P ops Q (o :: rest) a w :=
  wpList_plain hgd fun _ hK => wp_copy_m d s dT sT ho elem m q dp sp dLen dCap sLen sCap hd hs g off cur t cs hu hsz hg hq hn hpos hfit h1 fun w' h2 h3 => hK _ _ (h w' h2 h3)
theorem step_copy_m {ops : Array Oper} {o : Oper} {a : Act} {K : Act → World → Prop} {Q : Exit → Act → World → Prop} {E : Prop} (hgd : o.guard = none) (d s : Operand) (dT sT : TypeId)
    (ho : o.op = .call { callee := .builtin .copy, args := #[d, s], argTypes := #[dT, sT] }) (elem : TypeId) (m q : Nat) (dp sp : Option Addr) (dLen dCap sLen sCap : Nat) (hd : a.eval d = .slice dp dLen dCap) (hs : a.eval s = .slice sp sLen sCap) (g off : Nat) (cur : List Value) (t : TypeId) (cs : List Value)
    (hu : P.underlying dT = some (.slice elem)) (hsz : (P.info? elem).map (·.size) = some m) (hg : w.heap[g]? = some (.cells cur.toArray t (0, 0))) (hq : q = Nat.min sLen dLen) (hn : cs.length = q * m)
    (hpos : 0 < q → dp = some ⟨g, off, none⟩ ∧ ∃ ad, sp = some ad ∧ ∀ j v, cs[j]? = some v → w.cell? (ad.add j) = some v)
    (hfit : off + cs.length ≤ cur.length) (h1 : ∀ v ∈ cs, v.oneCell' = true)
    (h : ∀ w', Hid (w'.heap[g]? = some (.cells (splice cur off cs).toArray t (0, 0))) → Hid (w.grownBy w' (some g)) → K (a.put o.dst (goInt q)) w') :
    if Region.wanted o (yielded ops a.tmps) = true then Oper.wp P o a w K Q else E := by
  have hw : Region.wanted o (yielded ops a.tmps) = true := by simp [Region.wanted, hgd]
  rw [if_pos hw]
  exact wp_copy_m d s dT sT ho elem m q dp sp dLen dCap sLen sCap hd hs g off cur t cs hu hsz hg hq hn hpos hfit h1 h
/-- the end of a row is cleared -/
theorem run_clear_m (t e ty : TypeId) (z : Value) (m : Nat) (ht : P.underlying t = some (.slice e)) (hz : ∀ w, (zeroValue e).run P w = .ok z w) (hzs : z.cells.size = m) (h1 : ∀ v ∈ z.cells.toList, v.oneCell' = true)
    (g o n c : Nat) (cur : Array Value) (te : TypeId) (hg : w.heap[g]? = some (.cells cur te (0, 0))) (hn : 0 < n) (hfit : o + n * m ≤ cur.size) :
    ∃ new, (Builtin.clear_ #[t] ty #[.slice (some ⟨g, o, none⟩) n c]).run P w = .ok (.tuple #[]) (w.setRow g new) ∧ new.size = cur.size ∧ new.toList.take o = cur.toList.take o := by
  have hl : (Builtin.zeroCells z.cells n).toList.length = n * m := by rw [Array.length_toList, size_zeroCells, hzs]
  have hst := run_storeCells_at P g o te (Builtin.zeroCells z.cells n).toList 0 cur w hg (by rw [hl]; simpa using hfit) (fun v hv => by
    unfold Builtin.zeroCells at hv
    rw [Array.toList_map, List.mem_map] at hv
    obtain ⟨i, hi, rfl⟩ := hv
    have hi2 : i < n * z.cells.size := by simpa using hi
    have hm0 : 0 < z.cells.size := by
      rcases Nat.eq_zero_or_pos z.cells.size with h | h
      · rw [h] at hi2; simp at hi2
      · exact h
    rw [getElem!_pos z.cells (i % z.cells.size) (Nat.mod_lt _ hm0)]
    exact h1 _ (by rw [Array.mem_toList_iff]; exact Array.getElem_mem _))
  obtain ⟨k, rfl⟩ : ∃ k, n = k + 1 := ⟨n - 1, by omega⟩
  refine ⟨(cur.toList.take o ++ (Builtin.zeroCells z.cells (k + 1)).toList ++ cur.toList.drop (o + (k + 1) * m)).toArray, ?_, ?_, ?_⟩
  · rw [hl, Nat.add_zero] at hst
    simp [Builtin.clear_, run_underlying ht, hz, hst]
  · simp only [List.size_toArray, List.length_append, List.length_take, List.length_drop, Array.length_toList, hl]
    omega
  · simp only
    rw [List.append_assoc, List.take_append_of_le_length (by rw [List.length_take, Array.length_toList]; omega), List.take_take, Nat.min_self]
/-- the beginning of a row of one's own -/
theorem own_take {e : TypeId} {size base n k g c : Nat} {xs : List Value} (h : w.ownsRow base e size (.slice (some ⟨g, 0, none⟩) n c) n xs) (hk : k ≤ n) :
    w.ownsRow base e size (.slice (some ⟨g, 0, none⟩) k c) k (xs.take (k * size)) := by
  refine ⟨by rw [List.length_take, h.1]; exact Nat.min_eq_left (Nat.mul_le_mul_right _ hk), ?_⟩
  rcases h.2 with ⟨h, _⟩ | ⟨g', c', cur, hv, h1, h2, h3, h4, h5, h6⟩
  · cases h
  · injection hv with e1 _ e3
    injection e1 with e1
    injection e1 with e1
    subst e1 e3
    refine .inr ⟨_, _, cur, rfl, h1, h2, Nat.le_trans hk h3, h4, h5, ?_⟩
    rw [← h6, List.take_take, Nat.min_eq_left (Nat.mul_le_mul_right _ hk)]
theorem flat_take {α : Type} {f : α → List Value} {m : Nat} (hf : ∀ x, (f x).length = m) (l : List α) (k : Nat) : (l.flatMap f).take (k * m) = (l.take k).flatMap f := by
  induction l generalizing k with
  | nil => simp
  | cons x l ih =>
    cases k with
    | zero => simp
    | succ k =>
      rw [List.flatMap_cons, List.take_append, hf, List.take_of_length_le (by rw [hf, Nat.succ_mul]; omega), show (k + 1) * m - m = k * m from by rw [Nat.succ_mul]; omega, ih k]
      simp
/-- append where there is room -/
theorem run_app_room {t tx ty e : TypeId} {size bytes base : Nat} (T : RowT P t e size bytes) (g cap n : Nat) (xs : List Value) (hown : w.ownsRow base e size (.slice (some ⟨g, 0, none⟩) n cap) n xs)
    (x : Value) (m : Nat) (news : List Value) (hs : Src P size tx x m news w) (hroom : n + m ≤ cap) :
    ∃ w', (Builtin.append_ #[t, tx] ty #[.slice (some ⟨g, 0, none⟩) n cap, x]).run P w = .ok (.slice (some ⟨g, 0, none⟩) (n + m) cap) w' ∧ w'.ownsRow base e size (.slice (some ⟨g, 0, none⟩) (n + m) cap) (n + m) (xs ++ news) ∧ w.grownBy w' (some g) := by
  obtain ⟨ht, ⟨i, z, hi, hz, hsize, hby, hzs⟩, hsz⟩ := T
  subst hsize
  have hl := hs.newsLen
  have hlen : (xs ++ news).length = (n + m) * i.size := by rw [List.length_append, hown.1, hl, Nat.add_mul]
  rcases hown.2 with ⟨h, _⟩ | ⟨g', cap', cur, hv, hbg, hg, hnc, hcm, hcs, htake⟩
  · cases h
  · injection hv with e1 _ e3
    injection e1 with e1
    injection e1 with e1
    subst e1 e3
    have hfit : n * i.size + news.length ≤ cur.size := by rw [hl, hcs, ← Nat.add_mul]; exact Nat.mul_le_mul_right _ hroom
    have hst := run_storeCells_at P g (n * i.size) e news 0 cur w hg (by simpa using hfit) hs.one
    simp only [Nat.add_zero] at hst
    refine ⟨w.setRow g (cur.toList.take (n * i.size) ++ news ++ cur.toList.drop (n * i.size + news.length)).toArray, ?_, ⟨hlen, .inr ⟨g, cap, _, rfl, hbg, setRow_heap w g cur _ e _ hg, hroom, hcm, ?_, ?_⟩⟩, ⟨rfl, rfl, rfl, by simp, fun k _ hk => setRow_other w g k _ (fun e => hk (by rw [e]))⟩⟩
    · rcases hs.kind with ⟨e', hk⟩ | hk <;> simp [Builtin.append_, run_underlying ht, run_underlying hk, Go.sizeOf, typeInfo, hi, hs.len, hroom, hs.cells, Addr.add_lit, hst]
    · simp only [List.size_toArray, List.length_append, List.length_take, List.length_drop, Array.length_toList]
      omega
    · rw [htake, ← hlen]
      exact List.take_left
theorem step_app_room {ops : Array Oper} {o : Oper} {a : Act} {K : Act → World → Prop} {Q : Exit → Act → World → Prop} {E : Prop} (hgd : o.guard = none) (s x : Operand) {t tx e : TypeId} {size bytes base : Nat} (T : RowT P t e size bytes)
    (ho : o.op = .call { callee := .builtin .append, args := #[s, x], argTypes := #[t, tx] })
    (g cap n : Nat) (xs : List Value) (hs : a.eval s = .slice (some ⟨g, 0, none⟩) n cap) (hown : w.ownsRow base e size (.slice (some ⟨g, 0, none⟩) n cap) n xs) (xv : Value) (m : Nat) (news : List Value) (hx : a.eval x = xv) (hsrc : Src P size tx xv m news w) (hroom : n + m ≤ cap)
    (h : ∀ w', Hid (w'.ownsRow base e size (.slice (some ⟨g, 0, none⟩) (n + m) cap) (n + m) (xs ++ news)) → Hid (w.grownBy w' (some g)) → K (a.put o.dst (.slice (some ⟨g, 0, none⟩) (n + m) cap)) w') :
    if Region.wanted o (yielded ops a.tmps) = true then Oper.wp P o a w K Q else E := by
  have hw : Region.wanted o (yielded ops a.tmps) = true := by simp [Region.wanted, hgd]
  rw [if_pos hw]
  obtain ⟨w', hr, h2, h3⟩ := run_app_room (ty := o.type) T g cap n xs hown xv m news hsrc hroom
  unfold Oper.wp execOp
  simp only [ho, resolve, invoke, builtin, Sem.run_bind, Sem.run_pure, Result.andThen_ok, List.map_toArray, List.map_cons, List.map_nil, hs, hx, hr]
  exact h w' h2 h3
theorem own_some {base : Nat} {e : TypeId} {size : Nat} {A : Option Addr} {n c : Nat} {xs : List Value} (h : w.ownsRow base e size (.slice A n c) n xs) (hn : 0 < n) : ∃ g, A = some ⟨g, 0, none⟩ := by
  rcases h.2 with ⟨_, rfl⟩ | ⟨g, cap, cur, hv, _⟩
  · omega
  · injection hv with h1; exact ⟨g, h1⟩
theorem own_rd {base : Nat} {e : TypeId} {size : Nat} {A : Option Addr} {n c : Nat} {xs : List Value} (h : w.ownsRow base e size (.slice A n c) n xs) : Rd w A xs ∧ (A = none → n = 0) ∧ n ≤ c := by
  obtain ⟨A', c', e, h1, h2, h3, _⟩ := Rd.owned h
  injection e with e1 _ e3
  subst e1 e3
  exact ⟨h1, h2, h3⟩
/-- what an own row's block has -/
theorem own_cur {base : Nat} {e : TypeId} {size : Nat} {g n c : Nat} {xs : List Value} (h : w.ownsRow base e size (.slice (some ⟨g, 0, none⟩) n c) n xs) :
    base ≤ g ∧ c ≤ maxLen ∧ ∃ cur : Array Value, w.heap[g]? = some (.cells cur e (0, 0)) ∧ cur.size = c * size ∧ cur.toList.take (n * size) = xs := by
  rcases h.2 with ⟨h, _⟩ | ⟨g', c', cur, hv, h1, hg, h2, h3, h4, h5⟩
  · cases h
  · injection hv with e1 _ e3
    injection e1 with e1
    injection e1 with e1
    subst e1 e3
    exact ⟨h1, h3, cur, hg, h4, h5⟩
theorem grown_then {a b c : World} {o : Option Nat} (h : a.grownBy b o) (k : b.grownBy c o) : a.grownBy c o :=
  ⟨k.os.trans h.os, k.tape.trans h.tape, k.output.trans h.output, Nat.le_trans h.size k.size, fun i hi hn => (k.block i (Nat.lt_of_lt_of_le hi h.size) hn).trans (h.block i hi hn)⟩
theorem grown_ext {a b : World} {o : Option Nat} (h : Ext a b) : a.grownBy b o := ⟨h.os, h.tape, h.output, h.size, fun i hi _ => h.block i hi⟩
/-- the end of an own row is cleared -/
theorem own_cleared (t e : TypeId) (z : Value) (size : Nat) (ht : P.underlying t = some (.slice e)) (hz : ∀ w, (zeroValue e).run P w = .ok z w) (hzs : z.cells.size = size) (h1 : ∀ v ∈ z.cells.toList, v.oneCell' = true)
    {base g n c k q : Nat} {xs : List Value} (h : w.ownsRow base e size (.slice (some ⟨g, 0, none⟩) n c) n xs) (hk : 0 < k) (hc : n + k ≤ c) :
    ∃ w', (∀ ty, (Builtin.clear_ #[t] ty #[.slice (some ⟨g, n * size, none⟩) k q]).run P w = .ok (.tuple #[]) w') ∧ w'.ownsRow base e size (.slice (some ⟨g, 0, none⟩) n c) n xs ∧ w.grownBy w' (some g) := by
  obtain ⟨hb, hm, cur, hg, hs, hx⟩ := own_cur h
  obtain ⟨new, hr, hns, hnt⟩ := run_clear_m (P := P) (w := w) t e 0 z size ht hz hzs h1 g (n * size) k q cur e hg hk (by rw [hs, ← Nat.add_mul]; exact Nat.mul_le_mul_right _ hc)
  refine ⟨_, fun ty => hr, ⟨h.1, .inr ⟨g, c, new, rfl, hb, setRow_heap w g cur _ e _ hg, by omega, hm, by rw [hns, hs], by rw [hnt, hx]⟩⟩, ⟨rfl, rfl, rfl, by simp, fun k _ hk => setRow_other w g k _ (fun e => hk (by rw [e]))⟩⟩
end
end Hy
end
section
namespace Hy
open Go Go.RowKit
theorem own_low' {w : World} {base base' : Nat} {e : TypeId} {size : Nat} {v : Value} {n : Nat} {xs : List Value} (h : w.ownsRow base' e size v n xs) (hb : base ≤ base') : w.ownsRow base e size v n xs := by
  refine ⟨h.1, ?_⟩
  rcases h.2 with h | ⟨g, cap, cur, hv, hg, r⟩
  · exact .inl h
  · exact .inr ⟨g, cap, cur, hv, Nat.le_trans hb hg, r⟩
theorem own_block_rng {w : World} {base : Nat} {e : TypeId} {size : Nat} {v : Value} {n : Nat} {xs : List Value} (h : w.ownsRow base e size v n xs) {b : Nat} (hb : v.ownBlock = some b) : base ≤ b ∧ b < w.heap.size := by
  rcases h.2 with ⟨rfl, _⟩ | ⟨g, cap, cur, rfl, hg, hh, _⟩
  · cases hb
  · injection hb with hb
    subst hb
    refine ⟨hg, ?_⟩
    rcases Nat.lt_or_ge g w.heap.size with hlt | hge
    · exact hlt
    · rw [Array.getElem?_eq_none hge] at hh; cases hh
theorem own_past {w : World} {base : Nat} {e : TypeId} {size : Nat} {v : Value} {n : Nat} {xs : List Value} (h : w.ownsRow base e size v n xs) {p : Addr} (hp : p.block < base) (u : Value) : (w.setCell p u).ownsRow base e size v n xs :=
  own_but h (But.put (but_refl p.block w) p (.inl rfl) u) hp
section
variable {w w' : World} {base : Nat} {e e' : TypeId} {size size' : Nat} {n n' : Nat} {xs ys : List Value}
theorem own_typed {v : Value} (h : w.ownsRow base e size v n xs) {b : Nat} (hb : v.ownBlock = some b) : ∃ cur, w.heap[b]? = some (.cells cur e (0, 0)) := by
  rcases h.2 with ⟨rfl, _⟩ | ⟨g, cap, cur, rfl, _, hg, _⟩
  · cases hb
  · injection hb with hb
    subst hb
    exact ⟨cur, hg⟩
theorem own_ne {v u : Value} {base' : Nat} (h : w.ownsRow base e size v n xs) (k : w.ownsRow base' e' size' u n' ys) (he : e ≠ e') : v.ownBlock = none ∨ v.ownBlock ≠ u.ownBlock := by
  cases hv : v.ownBlock with
  | none => exact .inl rfl
  | some b =>
    right
    intro hu
    obtain ⟨c1, h1⟩ := own_typed h hv
    obtain ⟨c2, h2⟩ := own_typed k hu.symm
    rw [h1] at h2
    injection h2 with h2
    injection h2 with _ h2
    exact he h2
theorem own_nblk {v : Value} {g : Nat} {t : TypeId} {cs : Array Value} (h : w.ownsRow base e size v n xs) (k : Blk w g t cs) (he : e ≠ t) : v.ownBlock ≠ some g := fun hv => by
  obtain ⟨c1, h1⟩ := own_typed h hv
  rw [show w.heap[g]? = _ from k] at h1
  injection h1 with h1
  injection h1 with _ h1
  exact he h1.symm
theorem size_new (w : World) (o : Obj) : w.heap.size ≤ (w.alloc o).heap.size := (Ext.new (ext_refl w) o).size
theorem size_put (w : World) (p : Addr) (u : Value) : (w.setCell p u).heap.size = w.heap.size := by unfold World.setCell; split <;> simp
theorem new_ne {a b : Option Nat} {g k m : Nat} (h : a = b ∨ a = some m) (hb : b ≠ some g) (hg : g < k) (hk : k ≤ m) : a ≠ some g := by
  rcases h with rfl | rfl
  · exact hb
  · intro e; have := Option.some.inj e; omega
theorem own_put {v : Value} (h : w.ownsRow base e size v n xs) {p : Addr} (hp : v.ownBlock ≠ some p.block) (u : Value) : (w.setCell p u).ownsRow base e size v n xs :=
  h.kept (But.put (but_refl p.block w) p (.inl rfl) u) (.inr hp)
end
def PA (p : Nat → Prop) (A : Option Addr) (n : Nat) : Prop := 0 < n → ∀ a, A = some a → p a.block
theorem own_PA {p : Nat → Prop} {w : World} {base : Nat} {e : TypeId} {size : Nat} {A : Option Addr} {n c : Nat} {xs : List Value} (h : w.ownsRow base e size (.slice A n c) n xs) (hp : ∀ b, base ≤ b → p b) : PA p A n := fun _ a ha => by
  subst ha
  exact hp _ (own_block_rng h rfl).1
theorem Rd.but {w : World} {A : Option Addr} {cs : List Value} (h : Rd w A cs) {a : Addr} (hne : 0 < cs.length → ∀ b, A = some b → b.block ≠ a.block) (u : Value) : Rd (w.setCell a u) A cs := fun hp => by
  obtain ⟨b, o, e, hb, hc⟩ := h hp
  refine ⟨b, o, e, by rw [size_put]; exact hb, fun j u' hu => ?_⟩
  exact (But.put (but_refl a.block w) a (.inl rfl) u).cell (hc j u' hu) (fun e' => hne hp _ e (Option.some.inj e'))
theorem Blk.grw {w w' : World} {g : Nat} {t : TypeId} {cs : Array Value} {row : Option Nat} (h : Blk w g t cs) (hg : w.grownBy w' row) (hne : row ≠ some g) : Blk w' g t cs := (hg.block g h.lt (Ne.symm hne)).trans h
theorem rd_grw {w w' : World} {A : Option Addr} {cs : List Value} {row : Option Nat} (h : Rd w A cs) (hg : w.grownBy w' row) (hne : ∀ a, A = some a → row ≠ some a.block) : Rd w' A cs := fun hp => by
  obtain ⟨b, o, e, hb, hc⟩ := h hp
  refine ⟨b, o, e, Nat.lt_of_lt_of_le hb hg.size, fun j u hu => ?_⟩
  have := hc j u hu
  unfold World.cell? at this ⊢
  rw [hg.block b hb (Ne.symm (hne _ e))]
  exact this
end Hy
end
section
namespace Hy
open Go Go.RowKit
/-- where a slice begins that leaves out the first k elements of m cells each -/
def slF (A : Option Addr) (k cap m : Nat) : Option Addr := if cap = k then A else A.map (·.add (k * m))
theorem slF_zero (A : Option Addr) (cap m : Nat) : slF A 0 cap m = A := by
  unfold slF; split
  · rfl
  · cases A <;> simp [Addr.add]
section
variable {P : Program} {t e : TypeId} {m : Nat} (hu : P.underlying t = some (.slice e)) (hi : (P.info? e).map (·.size) = some m)
include hi in
theorem sl_size (w : World) : (Go.sizeOf e).run P w = .ok m w := by
  cases hq : P.info? e with
  | none => simp [hq] at hi
  | some i =>
    have : i.size = m := by simpa [hq] using hi
    simp [Go.sizeOf, typeInfo, hq, this]
include hu in
theorem sl_elem : P.underlying t = some (.slice (P.elem t)) := by
  have : P.elem t = e := by unfold Program.elem; rw [hu]
  rw [this]; exact hu
include hu hi
theorem sl_to (A : Option Addr) (len cap : Nat) (kd : IntKind) (k : Nat) (h : k ≤ cap) (w : World) :
    (Instr.sliceAt t (.slice A len cap) none (some (.int kd (k : Int))) none).run P w = .ok (.slice A k cap) w := by
  have he : P.elem t = e := by unfold Program.elem; rw [hu]
  have hu' := sl_elem hu
  rw [run_sliceAt_slice (h := hu'), run_slice_h (ht := hu') (h0 := by omega) (h2 := by omega), he, sl_size hi w]
  simp only [Result.andThen_ok, sliced, Int.toNat_natCast, Nat.zero_mul, Nat.sub_zero]
  congr 2
  split
  · rfl
  · cases A <;> simp [Addr.add]
theorem sl_from (A : Option Addr) (len cap : Nat) (kd : IntKind) (k : Nat) (h : k ≤ len) (w : World) :
    (Instr.sliceAt t (.slice A len cap) (some (.int kd (k : Int))) none none).run P w = .ok (.slice (slF A k cap m) (len - k) (cap - k)) w := by
  have he : P.elem t = e := by unfold Program.elem; rw [hu]
  have hu' := sl_elem hu
  rw [run_sliceAt_slice (h := hu'), run_slice_l (ht := hu') (h0 := by omega) (h1 := by omega), he, sl_size hi w]
  simp only [Result.andThen_ok, sliced, Int.toNat_natCast, slF]
theorem sl_mid (A : Option Addr) (len cap : Nat) (kd kd' : IntKind) (i j : Nat) (h : i ≤ j) (h' : j ≤ cap) (w : World) :
    (Instr.sliceAt t (.slice A len cap) (some (.int kd (i : Int))) (some (.int kd' (j : Int))) none).run P w = .ok (.slice (slF A i cap m) (j - i) (cap - i)) w := by
  have he : P.elem t = e := by unfold Program.elem; rw [hu]
  have hu' := sl_elem hu
  rw [run_sliceAt_slice (h := hu'), run_slice_lh (ht := hu') (h0 := by omega) (h1 := by omega) (h2 := by omega), he, sl_size hi w]
  simp only [Result.andThen_ok, sliced, Int.toNat_natCast, slF]
end
theorem Rd.pre {w : World} {A : Option Addr} {cs ds : List Value} (h : Rd w A (cs ++ ds)) : Rd w A cs := fun hp => by
  obtain ⟨b, o, e, hlt, hc⟩ := h (by simp; omega)
  refine ⟨b, o, e, hlt, fun j u hu => hc j u ?_⟩
  rw [List.getElem?_append_left (List.getElem?_eq_some_iff.1 hu).1]; exact hu
theorem Rd.take {α : Type} {f : α → List Value} {w : World} {A : Option Addr} {l : List α} (h : Rd w A (l.flatMap f)) (k : Nat) : Rd w A ((l.take k).flatMap f) := by
  have e : l.flatMap f = (l.take k).flatMap f ++ (l.drop k).flatMap f := by rw [← List.flatMap_append, List.take_append_drop]
  rw [e] at h
  exact h.pre
theorem flat_drop {α : Type} {f : α → List Value} {m : Nat} (hf : ∀ x, (f x).length = m) (l : List α) (k : Nat) : (l.flatMap f).drop (k * m) = (l.drop k).flatMap f := by
  induction l generalizing k with
  | nil => simp
  | cons x l ih =>
    cases k with
    | zero => simp
    | succ k =>
      rw [List.flatMap_cons, List.drop_append, List.drop_eq_nil_of_le (by rw [hf, Nat.succ_mul]; omega), hf, show (k + 1) * m - m = k * m from by rw [Nat.succ_mul]; omega, ih k]
      simp
theorem Rd.from {α : Type} {f : α → List Value} {m : Nat} (hf : ∀ x, (f x).length = m) {w : World} {A : Option Addr} {l : List α} (h : Rd w A (l.flatMap f)) (k cap : Nat) (hc : l.length ≤ cap) : Rd w (slF A k cap m) ((l.drop k).flatMap f) := fun hp => by
  have hk : k < l.length := by
    rcases Nat.lt_or_ge k l.length with h' | h'
    · exact h'
    · rw [List.drop_eq_nil_of_le h'] at hp; simp at hp
  have hpos : 0 < (l.flatMap f).length := by
    rw [← flat_drop hf, List.length_drop] at hp; omega
  obtain ⟨b, o, e, hlt, hcl⟩ := h hpos
  have hd := Rd.drop (w := w) (b := b) (o := o) (cs := l.flatMap f) (by rw [← e]; exact h) (k * m)
  rw [flat_drop hf] at hd
  unfold slF
  rw [if_neg (by omega), e]
  show ∃ b' o', some ((Addr.mk b o none).add (k * m)) = _ ∧ _
  rw [add_none]
  exact hd hp
end Hy
end
section
namespace Hy
open Go Go.RowKit
theorem Blk.row {w : World} {g : Nat} {t : TypeId} {old : Array Value} (h : Blk w g t old) (cs : Array Value) : Blk (w.setRow g cs) g t cs := setRow_heap w g old cs t _ h
theorem Blk.rowFar {w : World} {g g' : Nat} {t : TypeId} {cs : Array Value} (h : Blk w g t cs) (hne : g ≠ g') (u : Array Value) : Blk (w.setRow g' u) g t cs := (setRow_other w g' g u hne).trans h
theorem wpList_store_blk {P : Program} {ops : Array Oper} {rest : List Oper} {o : Oper} {a : Act} {w : World} {Q : Exit → Act → World → Prop} (hgd : o.guard = none) (ty : TypeId) (x y : Operand) (ho : o.op = .store ty x y)
    (g : Nat) (cells : Array Value) (hx : a.eval x = .pointer (some ⟨g, 0, none⟩)) (hy : a.eval y = .agg cells)
    (t : TypeId) (old : Array Value) (hg : Blk w g t old) (hi : (P.info? ty).map (·.size) = some cells.size)
    (hold : old.size = cells.size) (h1 : cells.all (·.oneCell') = true) (base : Nat) (hb : base ≤ g)
    (h : ∀ w', Blk w' g t cells → (∀ g' t' cs', g' ≠ g → Blk w g' t' cs' → Blk w' g' t' cs') → Below base w w' → wpList P ops Q rest (a.put o.dst undef) w') : wpList P ops Q (o :: rest) a w :=
  wpList_store_row hgd ty x y ho g cells hx hy t old hg hi hold h1
    (h _ (hg.row cells) (fun _ _ _ hne hB => hB.rowFar hne cells) (below_setRow (Below.refl _ _) hb cells))
theorem results_blk {P : Program} {fn : Func} {p : Tmp} {ty : TypeId} (h : fn.results = #[.cell p ty]) (tmps : Array Value) (w : World) (g : Nat) (t : TypeId) (cs : Array Value) (d : TypeDesc)
    (hp : tmps.getD p undef = .pointer (some ⟨g, 0, none⟩)) (hg : Blk w g t cs)
    (hu : P.underlying ty = some d) (hd : (match d with | .struct _ | .array _ _ => true | _ => false) = true) (hi : (P.info? ty).map (·.size) = some cs.size) :
    (results fn tmps).run P w = .ok (.agg cs) w := results_cell_row h tmps w g t cs (0, 0) d hp hg hu hd hi
theorem results_blk2 {P : Program} {fn : Func} {p u : Tmp} {ty : TypeId} (h : fn.results = #[.cell p ty, .tmp u]) (tmps : Array Value) (w : World) (g : Nat) (t : TypeId) (cs : Array Value) (d : TypeDesc)
    (hp : tmps.getD p undef = .pointer (some ⟨g, 0, none⟩)) (hg : Blk w g t cs)
    (hu : P.underlying ty = some d) (hd : (match d with | .struct _ | .array _ _ => true | _ => false) = true) (hi : (P.info? ty).map (·.size) = some cs.size) :
    (results fn tmps).run P w = .ok (.tuple #[.agg cs, tmps.getD u undef]) w := by
  rw [results_cell_tmp h, hp]
  simp only [asAddr, Sem.run_pure, Result.andThen_ok, run_loadVar_row w g t ty cs (0, 0) d hg hu hd hi]
theorem run_storeVar_at {P : Program} (w : World) (g off : Nat) (t ty : TypeId) (old cells new : Array Value) (hg : Blk w g t old) (hi : (P.info? ty).map (·.size) = some cells.size)
    (ho : off + cells.size ≤ old.size) (h1 : cells.all (·.oneCell') = true) (hn : (old.toList.take off ++ cells.toList ++ old.toList.drop (off + cells.size)).toArray = new) :
    (storeVar ty ⟨g, off, none⟩ (.agg cells)).run P w = .ok () (w.setRow g new) := by
  have := run_storeCells_at P g off t cells.toList 0 old w hg (by simp; omega) (fun v hv => (Array.all_eq_true_iff_forall_mem.1 h1) v (by simpa using hv))
  cases hq : P.info? ty with
  | none => simp [hq] at hi
  | some i =>
    have hs : cells.size = i.size := by simp [hq] at hi; omega
    simp only [Nat.add_zero, Array.length_toList, hn] at this
    simp [storeVar, Go.sizeOf, typeInfo, hq, Value.cells, hs, this]
/-- a record stored into a part of a block -/
theorem wpList_store_part {P : Program} {ops : Array Oper} {rest : List Oper} {o : Oper} {a : Act} {w : World} {Q : Exit → Act → World → Prop} (hgd : o.guard = none) (ty : TypeId) (x y : Operand) (ho : o.op = .store ty x y)
    (g off : Nat) (cells new : Array Value) (hx : a.eval x = .pointer (some ⟨g, off, none⟩)) (hy : a.eval y = .agg cells)
    (t : TypeId) (old : Array Value) (hg : Blk w g t old) (hi : (P.info? ty).map (·.size) = some cells.size)
    (hold : off + cells.size ≤ old.size) (h1 : cells.all (·.oneCell') = true) (hn : (old.toList.take off ++ cells.toList ++ old.toList.drop (off + cells.size)).toArray = new) (base : Nat) (hb : base ≤ g)
    (h : ∀ w', Blk w' g t new → (∀ g' t' cs', g' ≠ g → Blk w g' t' cs' → Blk w' g' t' cs') → Below base w w' → wpList P ops Q rest (a.put o.dst undef) w') : wpList P ops Q (o :: rest) a w :=
  wpList_plain hgd fun _ hK => by
    unfold Oper.wp execOp
    simp only [ho, hx, hy, Instr.storeAt, Instr.sureAddr, Sem.run_bind, Sem.run_pure, Result.andThen_ok, run_storeVar_at w g off t ty old cells new hg hi hold h1 hn]
    exact hK _ _ (h _ (hg.row new) (fun _ _ _ hne hB => hB.rowFar hne new) (below_setRow (Below.refl _ _) hb new))
/-- an array of records, by value: one of them -/
theorem run_index_agg {P : Program} {t e : TypeId} {n m : Nat} {d : TypeDesc} (hu : P.underlying t = some (.array n e)) (he : P.underlying e = some d) (hd : (match d with | .struct _ | .array _ _ => true | _ => false) = true)
    (hi : (P.info? e).map (·.size) = some m) (cs r : Array Value) (k : IntKind) (i : Nat) (h : i < n) (hr : cs.extract (i * m) (i * m + m) = r) (w : World) :
    (Instr.index t (.agg cs) (.int k (i : Int))).run P w = .ok (.agg r) w := by
  have hagg : (isAgg e).run P w = .ok true w := by
    unfold isAgg
    rw [Sem.run_bind, run_underlying he w]
    cases d <;> simp_all
  cases hq : P.info? e with
  | none => simp [hq] at hi
  | some inf =>
    have hs : inf.size = m := by simpa [hq] using hi
    simp [Instr.index, run_underlying hu, asIntOf, part, Sem.run_bind, hagg, Go.sizeOf, typeInfo, hq, hs, h, hr]
end Hy
end
section
namespace Hy
open Go Go.RowKit
/-- texts as cells -/
def txs (l : List (List UInt8)) : List Value := l.map fun b => Value.string ⟨b.toArray⟩
theorem txs_len (l : List (List UInt8)) : (txs l).length = l.length := by simp [txs]
theorem txs_one (l : List (List UInt8)) : ∀ u ∈ txs l, u.oneCell' = true := fun u hu => by
  obtain ⟨_, _, rfl⟩ := List.mem_map.1 hu; rfl
theorem txs_app (l m : List (List UInt8)) : txs (l ++ m) = txs l ++ txs m := by simp [txs]
theorem txs_get (l : List (List UInt8)) (k : Nat) (h : k < l.length) : (txs l)[k]? = some (.string ⟨l[k].toArray⟩) := by simp [txs, h]
theorem Rd.texts {w : World} {A : Option Addr} {l : List (List UInt8)} (h : Rd w A (txs l)) (k : Nat) (hk : k < l.length) :
    ∃ b o, A = some ⟨b, o, none⟩ ∧ b < w.heap.size ∧ ∀ j (hj : j < l.length), w.cell? ⟨b, o + j, none⟩ = some (.string ⟨l[j].toArray⟩) := by
  obtain ⟨b, o, e, hb, hc⟩ := h (by rw [txs_len]; omega)
  exact ⟨b, o, e, hb, fun j hj => hc j _ (txs_get l j hj)⟩
def sameTexts (a b : List (List UInt8)) : Bool := decide (a = b)
theorem take_step {α : Type} (a b : List α) (k : Nat) (h1 : k < a.length) (h2 : k < b.length) (ht : a.take k = b.take k) (e : a[k] = b[k]) : a.take (k + 1) = b.take (k + 1) := by
  rw [List.take_succ_eq_append_getElem h1, List.take_succ_eq_append_getElem h2, ht, e]
/-- a list of texts in new memory, and an error -/
def TextsOut (l : List (List UInt8)) (err : Nat) (w : World) (e : Ending) (w' : World) : Prop := ∃ A cap, e = .returned (.tuple #[.slice A l.length cap, .int .i64 err]) ∧ Rd w' A (txs l) ∧ Ext w w'
end Hy
end
