/- Words of my own for memory, and small plain facts. No program in sight. -/
import Derived.Handy
import Derived.WalkSpells
import Derived.WalkLawsBesides
import Derived.Deep.RegionWith
import Derived.Deep.RegionHeld3
import Derived.Deep.QuietTactic
import Derived.BigQuiet
import Derived.Deep.DeepCutAuto
import Derived.Deep.DeepMust
import Derived.Deep.DeepFit
import Derived.Deep.LoopGhost
import Derived.StillTailTactics
import Derived.Lib.QuietBelow
namespace Hy
open Go Go.RowKit

/-- block g is just the cells cs of element type t; none of them frozen -/
def Blk (w : World) (g : Nat) (t : TypeId) (cs : Array Value) : Prop := w.heap[g]? = some (.cells cs t (0, 0))

section
variable {w w' : World} {g : Nat} {t : TypeId} {cs : Array Value}
theorem Blk.lt (h : Blk w g t cs) : g < w.heap.size := by
  unfold Blk at h
  rcases Nat.lt_or_ge g w.heap.size with hlt | hge
  · exact hlt
  · rw [Array.getElem?_eq_none hge] at h; cases h
theorem Blk.cell (h : Blk w g t cs) (i : Nat) : w.cell? ⟨g, i, none⟩ = cs[i]? := by
  unfold Blk at h; simp [World.cell?, h]
theorem Blk.frozen (h : Blk w g t cs) (i : Nat) : w.frozen? ⟨g, i, none⟩ = false := by
  unfold Blk at h; simp [World.frozen?, h]
theorem Blk.new (w : World) (t : TypeId) (cs : Array Value) : Blk (w.alloc (.cells cs t)) w.heap.size t cs := by
  unfold Blk World.alloc; simp
theorem Blk.drew (h : Blk w g t cs) : Blk w.drew g t cs := h
theorem Blk.drewN (h : Blk w g t cs) (n : Nat) : Blk (w.drewN n) g t cs := h
theorem Blk.alloc (h : Blk w g t cs) (o : Obj) : Blk (w.alloc o) g t cs := (Below.heap_alloc w o g h.lt).trans h
theorem Blk.set (h : Blk w g t cs) (i : Nat) (u : Value) : Blk (w.setCell ⟨g, i, none⟩ u) g t (cs.setIfInBounds i u) := by
  unfold Blk at h ⊢
  simp [World.setCell, Array.getElem?_modify, h]
theorem Blk.far (h : Blk w g t cs) {p : Addr} (hp : g ≠ p.block) (u : Value) : Blk (w.setCell p u) g t cs := (Below.heap_setCell w p u g hp).trans h
theorem Blk.below {B : Nat} (h : Blk w g t cs) (hb : Below B w w') (hg : g < B) : Blk w' g t cs := (hb.block g hg).trans h
end
/-- w' is w with new blocks: all that w had is as it was -/
abbrev Ext (w w' : World) : Prop := Below w.heap.size w w'
section
variable {a w w' : World}
theorem ext_refl (w : World) : Ext w w := Below.refl _ _
theorem Ext.then (h : Ext a w) (k : Ext w w') : Ext a w' := Below.trans h (Below.mono k h.size)
theorem Ext.new (h : Ext a w) (o : Obj) : Ext a (w.alloc o) := Below.alloc h h.size o
theorem Ext.draw (h : Ext a w) : Ext a w.drew := Below.drew h
theorem Ext.draws (h : Ext a w) (n : Nat) : Ext a (w.drewN n) := ⟨h.os, h.tape, h.output, h.size, h.block⟩
theorem Ext.put (h : Ext a w) {p : Addr} (hp : a.heap.size ≤ p.block) (u : Value) : Ext a (w.setCell p u) := Below.setCell h hp u
end
theorem Blk.cast {w : World} {g : Nat} {t : TypeId} {cs cs' : Array Value} (h : Blk w g t cs) (e : cs = cs') : Blk w g t cs' := e ▸ h
theorem Blk.keep {w w' : World} {g : Nat} {t : TypeId} {cs : Array Value} (h : Blk w g t cs) (hb : Ext w w') : Blk w' g t cs := h.below hb h.lt
theorem div_bd (a b : Nat) (K : Int) (h : (a : Int) < K) : 0 ≤ (a : Int) / (b : Int) ∧ (a : Int) / (b : Int) < K := by
  rw [← Int.natCast_ediv]
  have := Nat.div_le_self a b
  generalize a / b = q at *
  omega
theorem below_drewN {B : Nat} {a w : World} (h : Below B a w) (n : Nat) : Below B a (w.drewN n) := ⟨h.os, h.tape, h.output, h.size, h.block⟩
theorem ofInt_i64 (a : Nat) (ha : a < 9223372036854775808) : (BitVec.ofInt 64 (a : Int)).toNat = a := by
  rw [BitVec.ofInt_natCast, BitVec.toNat_ofNat]; exact Nat.mod_eq_of_lt (by omega)
theorem i64_xor_nat (a b : Nat) (ha : a < 9223372036854775808) (hb : b < 9223372036854775808) : bits .xor .i64 (a : Int) (b : Int) = ((a ^^^ b : Nat) : Int) := by
  have hx : a ^^^ b < 2 ^ 63 := Nat.xor_lt_two_pow (by omega) (by omega)
  show IntKind.i64.wrap ((BitVec.ofInt 64 (a : Int) ^^^ BitVec.ofInt 64 (b : Int)).toNat : Int) = _
  rw [BitVec.toNat_xor, ofInt_i64 a ha, ofInt_i64 b hb, IntKind.wrap_i64]
  omega
theorem ret_int {k : IntKind} {a b : Int} (h : a = b) : Ending.returned (.int k a) = .returned (.int k b) := by rw [h]
theorem ret_int2 {k j : IntKind} {a b c d : Int} (h : a = b) (h' : c = d) : Ending.returned (.tuple #[.int k a, .int j c]) = .returned (.tuple #[.int k b, .int j d]) := by rw [h, h']
theorem ret_bool {a b : Bool} (h : a = b) : Ending.returned (.bool a) = .returned (.bool b) := by rw [h]

theorem take_snoc (s : ByteArray) (k : Nat) (h : k < s.size) : s.data.toList.take (k + 1) = s.data.toList.take k ++ [s[k]] := by
  rw [List.take_succ_eq_append_getElem (by simpa using h)]; rfl
theorem ext_list (s : ByteArray) (a b : Nat) : (s.extract a b).data.toList = (s.data.toList.drop a).take (b - a) := by simp [ByteArray.data_extract]
theorem ext_head (s : ByteArray) (b : Nat) : (s.extract 0 b).data.toList = s.data.toList.take b := by rw [ext_list]; simp
theorem ext_tail (s : ByteArray) (a : Nat) : (s.extract a s.size).data.toList = s.data.toList.drop a := by
  rw [ext_list, List.take_of_length_le (by simp)]
theorem app_list (s t : ByteArray) : (s ++ t).data.toList = s.data.toList ++ t.data.toList := by simp
theorem at_list (s : ByteArray) (k : Nat) (h : k < s.size) : s.data.toList = s.data.toList.take k ++ [s[k]] ++ s.data.toList.drop (k + 1) := by
  rw [← take_snoc s k h, List.take_append_drop]
theorem take_all (s : ByteArray) : s.data.toList.take s.size = s.data.toList := List.take_of_length_le (by simp)

/-- behind a region that was walked quietly -/
theorem ext_regrown (w : World) (p : Regrown) : Ext w (Go.Sort.grow (redrawn w p.d) p.os) := below_regrown w p.d p.os
theorem hid {p : Prop} (h : p) : Hid p := h
/-- the world under a name of its own, with what is wanted of it -/
theorem wp_gen {P : Program} {c : Code} {Q : Exit → Act → World → Prop} {a : Act} {W : World} (F : World → Prop) (hF : F W) (h : ∀ w', F w' → Code.wp P c Q a w') : Code.wp P c Q a W := h W hF
/-! ### slices that read as lists of cells -/
def Rd (w : World) (A : Option Addr) (cs : List Value) : Prop :=
  0 < cs.length → ∃ b o, A = some ⟨b, o, none⟩ ∧ b < w.heap.size ∧ ∀ j u, cs[j]? = some u → w.cell? ⟨b, o + j, none⟩ = some u
theorem Rd.keep {w w' : World} {A : Option Addr} {cs : List Value} (h : Rd w A cs) (hb : Ext w w') : Rd w' A cs := fun hp => by
  obtain ⟨b, o, e, hlt, hc⟩ := h hp
  exact ⟨b, o, e, Nat.lt_of_lt_of_le hlt hb.size, fun j u hu => (hb.cell (p := ⟨b, o + j, none⟩) hlt).trans (hc j u hu)⟩
theorem Rd.drop {w : World} {b o : Nat} {cs : List Value} (h : Rd w (some ⟨b, o, none⟩) cs) (k : Nat) : Rd w (some ⟨b, o + k, none⟩) (cs.drop k) := fun hp => by
  obtain ⟨b', o', e, hlt, hc⟩ := h (by simp at hp; omega)
  simp only [Option.some.injEq, Addr.mk.injEq, and_true] at e
  obtain ⟨rfl, rfl⟩ := e
  refine ⟨b, o + k, rfl, hlt, fun j u hu => ?_⟩
  rw [List.getElem?_drop] at hu
  rw [Nat.add_assoc]; exact hc _ u hu
theorem rd_one {w : World} {g : Nat} {v : Value} (h : w.cell? ⟨g, 0, none⟩ = some v) : Rd w (some ⟨g, 0, none⟩) [v] := fun _ => by
  refine ⟨g, 0, rfl, block_lt_of_cell h, fun j u hu => ?_⟩
  match j, hu with
  | 0, hu => simp at hu; subst hu; exact h
theorem rd_new {w : World} {g : Nat} {C : Array Value} {e : TypeId} {fz : Nat × Nat} {cs : List Value} (hg : g = w.heap.size) (h : ∀ (j : Nat) (u : Value), cs[j]? = some u → C[j]? = some u) :
    Rd (w.alloc (.cells C e fz)) (some ⟨g, 0, none⟩) cs := fun _ => by
  subst hg
  refine ⟨w.heap.size, 0, rfl, by simp, fun j u hu => ?_⟩
  have e1 : (w.alloc (.cells C e fz)).heap[w.heap.size]? = some (.cells C e fz) := by unfold World.alloc; simp
  simp only [World.cell?, e1, Nat.zero_add, Option.isSome_none, Bool.false_eq_true, if_false]
  exact h j u hu
theorem rd_bytes {w : World} {g c : Nat} {s : ByteArray} {e : TypeId} {fz : Nat × Nat} (hg : g = w.heap.size) :
    Rd (w.alloc (.cells (bytesRow s c) e fz)) (some ⟨g, 0, none⟩) (s.data.toList.map fun u : UInt8 => Value.int .u8 u.toNat) :=
  rd_new hg fun j u hu => by
    simp only [List.getElem?_map, Option.map_eq_some_iff, Array.getElem?_toList] at hu
    obtain ⟨b, hb, rfl⟩ := hu
    obtain ⟨hj, rfl⟩ := Array.getElem?_eq_some_iff.1 hb
    exact bytesRow_at s c j hj
theorem flat_length {α : Type} {f : α → List Value} {m : Nat} (hf : ∀ x, (f x).length = m) (l : List α) : (l.flatMap f).length = l.length * m := by
  induction l with
  | nil => simp
  | cons x l ih => simp only [List.flatMap_cons, List.length_append, ih, hf, List.length_cons, Nat.succ_mul]; omega
theorem flat_get {α : Type} {f : α → List Value} {m : Nat} (hf : ∀ x, (f x).length = m) (l : List α) (k : Nat) (hk : k < l.length) (j : Nat) (hj : j < m) :
    (l.flatMap f)[k * m + j]? = (f l[k])[j]? := by
  induction l generalizing k with
  | nil => simp at hk
  | cons x l ih =>
    rw [List.flatMap_cons]
    cases k with
    | zero => rw [List.getElem?_append_left (by rw [hf]; omega)]; simp
    | succ k =>
      rw [List.getElem?_append_right (by rw [hf, Nat.succ_mul]; omega), hf, show (k + 1) * m + j - m = k * m + j from by rw [Nat.succ_mul]; omega, ih k (by simpa using hk)]
      simp
theorem Rd.cell3 {α : Type} {w : World} {A : Option Addr} {f : α → List Value} (hf : ∀ x, (f x).length = 3) {l : List α} (h : Rd w A (l.flatMap f)) {k : Nat} (hk : k < l.length) :
    ∃ b o, A = some ⟨b, o, none⟩ ∧ b < w.heap.size ∧ ∀ j u, j < 3 → (f l[k])[j]? = some u → w.cell? ⟨b, o + k * 3 + j, none⟩ = some u := by
  obtain ⟨b, o, e, hb, hc⟩ := h (by rw [flat_length hf]; omega)
  refine ⟨b, o, e, hb, fun j u hj hu => ?_⟩
  rw [Nat.add_assoc]
  exact hc _ u (by rw [flat_get hf l k hk j hj]; exact hu)
/-- the call answers v, in whatever world, and leaves what there was as it was -/
def Gives (P : Program) (f : FuncId) (args : Array Value) (v : Value) : Prop := ∀ w, Calls P f args w fun e w' => e = .returned v ∧ Ext w w'
theorem Gives.quiet {P : Program} {f : FuncId} {args : Array Value} {v : Value} (h : Gives P f args v) (w : World) (d : Nat) (os : Array Obj) :
    Calls P f args (Go.Sort.grow (redrawn w d) os) fun e w'' => e = .returned v ∧ ∃ p : Regrown, w'' = Go.Sort.grow (redrawn w p.d) p.os := Calls.regrown_of (h _)
/-! ### bytes to a string -/
theorem add_none (b o j : Nat) : (Addr.mk b o none).add j = ⟨b, o + j, none⟩ := by
  unfold Addr.add; split
  · rename_i h; subst h; rfl
  · rfl
theorem foldl_push (l : List UInt8) : ∀ s : ByteArray, (l.map (fun u : UInt8 => (u.toNat : Int))).foldl (fun r n => r.push (UInt8.ofNat n.toNat)) s = ⟨s.data ++ l.toArray⟩ := by
  induction l with
  | nil => intro s; simp
  | cons u l ih =>
    intro s
    simp only [List.map_cons, List.foldl_cons, ih]
    simp [ByteArray.push]
theorem run_str {P : Program} {w : World} {src dst e : TypeId} (hs : P.underlying src = some (.slice e)) (he : P.underlying e = some (.int .u8)) (hd : P.underlying dst = some .string)
    (b o len cap : Nat) (l : List UInt8) (hl : l.length = len) (hc : ∀ j u, l[j]? = some u → w.cell? ⟨b, o + j, none⟩ = some (.int .u8 u.toNat)) :
    (convert src dst (.slice (some ⟨b, o, none⟩) len cap)).run P w = .ok (.string ⟨l.toArray⟩) w := by
  rw [run_convert_bytes_string w src dst e _ _ _ hs he hd]
  have h := run_loadCells_list (P := P) (w := w) ⟨b, o, none⟩ ((l.map (fun u : UInt8 => (u.toNat : Int))).map (Value.int .u8)) (fun j v hv => by
    rw [add_none]
    simp only [List.map_map, List.getElem?_map, Option.map_eq_some_iff] at hv
    obtain ⟨u, hu, rfl⟩ := hv
    exact hc j u hu)
  simp only [List.length_map] at h
  rw [hl] at h
  rw [run_bytesToString w _ _ _ _ h, foldl_push]
  simp [ByteArray.empty, ByteArray.emptyWithCapacity]; rfl
theorem run_str1 {P : Program} {src dst e : TypeId} (hs : P.underlying src = some (.slice e)) (he : P.underlying e = some (.int .u8)) (hd : P.underlying dst = some .string)
    (n : Nat) (hn : n < 256) (w : World) : (convert src dst (.slice (some ⟨w.heap.size, 0, none⟩) 1 1)).run P (w.alloc (.cells #[.int .u8 (n : Int)] e)) = .ok (.string ⟨#[UInt8.ofNat n]⟩) (w.alloc (.cells #[.int .u8 (n : Int)] e)) := by
  refine run_str hs he hd _ 0 1 1 [UInt8.ofNat n] rfl (fun j u hj => ?_)
  have hb := (Blk.new w e #[.int .u8 (n : Int)]).cell
  match j, hj with
  | 0, hj =>
    simp at hj; subst hj
    rw [hb]; simp; omega
theorem Blk.ne {w : World} {g g' : Nat} {t t' : TypeId} {cs cs' : Array Value} (h : Blk w g t cs) (h' : Blk w g' t' cs') (hne : t ≠ t') : g ≠ g' := by
  rintro rfl
  unfold Blk at h h'
  rw [h] at h'
  simp only [Option.some.injEq, Obj.cells.injEq] at h'
  exact hne h'.2.1
theorem Blk.newAt {w : World} {g : Nat} {t : TypeId} {cs : Array Value} (h : g = w.heap.size) : Blk (w.alloc (.cells cs t)) g t cs := by subst h; exact Blk.new w t cs
theorem rd_lit {w : World} {g : Nat} {C : Array Value} {e : TypeId} {fz : Nat × Nat} {cs : List Value} (hg : g = w.heap.size) (h : C.toList = cs) : Rd (w.alloc (.cells C e fz)) (some ⟨g, 0, none⟩) cs :=
  rd_new hg fun j u hu => by rw [← Array.getElem?_toList, h]; exact hu
theorem ext_cell {a b : World} {p : Addr} {v : Value} (h : Ext a b) (hc : a.cell? p = some v) : b.cell? p = some v := (h.cell (block_lt_of_cell hc)).trans hc

end Hy
