/- Texts of this claim, put together: walks and plain laws. -/
import Derived.Test.YthgnipangcmanaaGreatRows
import Derived.Handy
import Derived.WalkSpells
import Derived.WalkLawsBesides
import Derived.Deep.RegionWith
import Derived.Deep.RegionHeld3
import Derived.Deep.QuietTactic
import Derived.BigQuiet
import Derived.Deep.DeepCutAuto
import Derived.Deep.DeepMust
import Derived.Deep.DeepFit
import Derived.Deep.LoopGhost
import Derived.StillTailTactics
import Derived.Lib.QuietBelow
import Derived.Deep.AppendSrc
import Derived.Deep.AppendLies
import Derived.Deep.DeepAppendWide
import Derived.Laws.CopyOwn
import Derived.Lib.AppendZerosOnto
import Derived.Lib.Overlaps
import Derived.Laws.Tables
import Derived.Laws.ResultCell
import Derived.Lib.Bytealg
import Derived.Lib.Small
import Derived.Laws.Closers25b
import Derived.Lib.BitFns
import GoSem.Op.String
import Derived.Lib.SlicesCompact
section
section
namespace Hy
open Go Go.RowKit
def Blk (w : World) (g : Nat) (t : TypeId) (cs : Array Value) : Prop := w.heap[g]? = some (.cells cs t (0, 0))
section
variable {w w' : World} {g : Nat} {t : TypeId} {cs : Array Value}
theorem Blk.lt (h : Blk w g t cs) : g < w.heap.size := by
  unfold Blk at h
  rcases Nat.lt_or_ge g w.heap.size with hlt | hge
  · exact hlt
  · rw [Array.getElem?_eq_none hge] at h; cases h
theorem Blk.cell (h : Blk w g t cs) (i : Nat) : w.cell? ⟨g, i, none⟩ = cs[i]? := by
  unfold Blk at h; simp [World.cell?, h]
theorem Blk.frozen (h : Blk w g t cs) (i : Nat) : w.frozen? ⟨g, i, none⟩ = false := by
  unfold Blk at h; simp [World.frozen?, h]
theorem Blk.new (w : World) (t : TypeId) (cs : Array Value) : Blk (w.alloc (.cells cs t)) w.heap.size t cs := by
  unfold Blk World.alloc; simp
theorem Blk.drew (h : Blk w g t cs) : Blk w.drew g t cs := h
theorem Blk.drewN (h : Blk w g t cs) (n : Nat) : Blk (w.drewN n) g t cs := h
theorem Blk.alloc (h : Blk w g t cs) (o : Obj) : Blk (w.alloc o) g t cs := (Below.heap_alloc w o g h.lt).trans h
theorem Blk.set (h : Blk w g t cs) (i : Nat) (u : Value) : Blk (w.setCell ⟨g, i, none⟩ u) g t (cs.setIfInBounds i u) := by
  unfold Blk at h ⊢
  simp [World.setCell, Array.getElem?_modify, h]
theorem Blk.far (h : Blk w g t cs) {p : Addr} (hp : g ≠ p.block) (u : Value) : Blk (w.setCell p u) g t cs := (Below.heap_setCell w p u g hp).trans h
theorem Blk.below {B : Nat} (h : Blk w g t cs) (hb : Below B w w') (hg : g < B) : Blk w' g t cs := (hb.block g hg).trans h
end
abbrev Ext (w w' : World) : Prop := Below w.heap.size w w'
section
variable {a w w' : World}
theorem ext_refl (w : World) : Ext w w := Below.refl _ _
theorem Ext.then (h : Ext a w) (k : Ext w w') : Ext a w' := Below.trans h (Below.mono k h.size)
theorem Ext.new (h : Ext a w) (o : Obj) : Ext a (w.alloc o) := Below.alloc h h.size o
theorem Ext.draw (h : Ext a w) : Ext a w.drew := Below.drew h
theorem Ext.draws (h : Ext a w) (n : Nat) : Ext a (w.drewN n) := ⟨h.os, h.tape, h.output, h.size, h.block⟩
theorem Ext.put (h : Ext a w) {p : Addr} (hp : a.heap.size ≤ p.block) (u : Value) : Ext a (w.setCell p u) := Below.setCell h hp u
end
theorem Blk.cast {w : World} {g : Nat} {t : TypeId} {cs cs' : Array Value} (h : Blk w g t cs) (e : cs = cs') : Blk w g t cs' := e ▸ h
theorem Blk.keep {w w' : World} {g : Nat} {t : TypeId} {cs : Array Value} (h : Blk w g t cs) (hb : Ext w w') : Blk w' g t cs := h.below hb h.lt
theorem ofInt_i64 (a : Nat) (ha : a < 9223372036854775808) : (BitVec.ofInt 64 (a : Int)).toNat = a := by
  rw [BitVec.ofInt_natCast, BitVec.toNat_ofNat]; exact Nat.mod_eq_of_lt (by omega)
theorem ret_int {k : IntKind} {a b : Int} (h : a = b) : Ending.returned (.int k a) = .returned (.int k b) := by rw [h]
theorem ret_bool {a b : Bool} (h : a = b) : Ending.returned (.bool a) = .returned (.bool b) := by rw [h]
theorem take_snoc (s : ByteArray) (k : Nat) (h : k < s.size) : s.data.toList.take (k + 1) = s.data.toList.take k ++ [s[k]] := by
  rw [List.take_succ_eq_append_getElem (by simpa using h)]; rfl
theorem ext_list (s : ByteArray) (a b : Nat) : (s.extract a b).data.toList = (s.data.toList.drop a).take (b - a) := by simp [ByteArray.data_extract]
theorem ext_head (s : ByteArray) (b : Nat) : (s.extract 0 b).data.toList = s.data.toList.take b := by rw [ext_list]; simp
theorem ext_tail (s : ByteArray) (a : Nat) : (s.extract a s.size).data.toList = s.data.toList.drop a := by
  rw [ext_list, List.take_of_length_le (by simp)]
theorem take_all (s : ByteArray) : s.data.toList.take s.size = s.data.toList := List.take_of_length_le (by simp)
theorem ext_regrown (w : World) (p : Regrown) : Ext w (Go.Sort.grow (redrawn w p.d) p.os) := below_regrown w p.d p.os
theorem hid {p : Prop} (h : p) : Hid p := h
theorem wp_gen {P : Program} {c : Code} {Q : Exit → Act → World → Prop} {a : Act} {W : World} (F : World → Prop) (hF : F W) (h : ∀ w', F w' → Code.wp P c Q a w') : Code.wp P c Q a W := h W hF
/-! ### slices that read as lists of cells -/
def Rd (w : World) (A : Option Addr) (cs : List Value) : Prop :=
  0 < cs.length → ∃ b o, A = some ⟨b, o, none⟩ ∧ b < w.heap.size ∧ ∀ j u, cs[j]? = some u → w.cell? ⟨b, o + j, none⟩ = some u
theorem Rd.keep {w w' : World} {A : Option Addr} {cs : List Value} (h : Rd w A cs) (hb : Ext w w') : Rd w' A cs := fun hp => by
  obtain ⟨b, o, e, hlt, hc⟩ := h hp
  exact ⟨b, o, e, Nat.lt_of_lt_of_le hlt hb.size, fun j u hu => (hb.cell (p := ⟨b, o + j, none⟩) hlt).trans (hc j u hu)⟩
theorem Rd.drop {w : World} {b o : Nat} {cs : List Value} (h : Rd w (some ⟨b, o, none⟩) cs) (k : Nat) : Rd w (some ⟨b, o + k, none⟩) (cs.drop k) := fun hp => by
  obtain ⟨b', o', e, hlt, hc⟩ := h (by simp at hp; omega)
  simp only [Option.some.injEq, Addr.mk.injEq, and_true] at e
  obtain ⟨rfl, rfl⟩ := e
  refine ⟨b, o + k, rfl, hlt, fun j u hu => ?_⟩
  rw [List.getElem?_drop] at hu
  rw [Nat.add_assoc]; exact hc _ u hu
theorem rd_new {w : World} {g : Nat} {C : Array Value} {e : TypeId} {fz : Nat × Nat} {cs : List Value} (hg : g = w.heap.size) (h : ∀ (j : Nat) (u : Value), cs[j]? = some u → C[j]? = some u) :
    Rd (w.alloc (.cells C e fz)) (some ⟨g, 0, none⟩) cs := fun _ => by
  subst hg
  refine ⟨w.heap.size, 0, rfl, by simp, fun j u hu => ?_⟩
  have e1 : (w.alloc (.cells C e fz)).heap[w.heap.size]? = some (.cells C e fz) := by unfold World.alloc; simp
  simp only [World.cell?, e1, Nat.zero_add, Option.isSome_none, Bool.false_eq_true, if_false]
  exact h j u hu
theorem rd_bytes {w : World} {g c : Nat} {s : ByteArray} {e : TypeId} {fz : Nat × Nat} (hg : g = w.heap.size) :
    Rd (w.alloc (.cells (bytesRow s c) e fz)) (some ⟨g, 0, none⟩) (s.data.toList.map fun u : UInt8 => Value.int .u8 u.toNat) :=
  rd_new hg fun j u hu => by
    simp only [List.getElem?_map, Option.map_eq_some_iff, Array.getElem?_toList] at hu
    obtain ⟨b, hb, rfl⟩ := hu
    obtain ⟨hj, rfl⟩ := Array.getElem?_eq_some_iff.1 hb
    exact bytesRow_at s c j hj
theorem flat_length {α : Type} {f : α → List Value} {m : Nat} (hf : ∀ x, (f x).length = m) (l : List α) : (l.flatMap f).length = l.length * m := by
  induction l with
  | nil => simp
  | cons x l ih => simp only [List.flatMap_cons, List.length_append, ih, hf, List.length_cons, Nat.succ_mul]; omega
theorem flat_get {α : Type} {f : α → List Value} {m : Nat} (hf : ∀ x, (f x).length = m) (l : List α) (k : Nat) (hk : k < l.length) (j : Nat) (hj : j < m) :
    (l.flatMap f)[k * m + j]? = (f l[k])[j]? := by
  induction l generalizing k with
  | nil => simp at hk
  | cons x l ih =>
    rw [List.flatMap_cons]
    cases k with
    | zero => rw [List.getElem?_append_left (by rw [hf]; omega)]; simp
    | succ k =>
      rw [List.getElem?_append_right (by rw [hf, Nat.succ_mul]; omega), hf, show (k + 1) * m + j - m = k * m + j from by rw [Nat.succ_mul]; omega, ih k (by simpa using hk)]
      simp
def Gives (P : Program) (f : FuncId) (args : Array Value) (v : Value) : Prop := ∀ w, Calls P f args w fun e w' => e = .returned v ∧ Ext w w'
theorem Gives.quiet {P : Program} {f : FuncId} {args : Array Value} {v : Value} (h : Gives P f args v) (w : World) (d : Nat) (os : Array Obj) :
    Calls P f args (Go.Sort.grow (redrawn w d) os) fun e w'' => e = .returned v ∧ ∃ p : Regrown, w'' = Go.Sort.grow (redrawn w p.d) p.os := Calls.regrown_of (h _)
/-! ### bytes to a string -/
theorem add_none (b o j : Nat) : (Addr.mk b o none).add j = ⟨b, o + j, none⟩ := by
  unfold Addr.add; split
  · rename_i h; subst h; rfl
  · rfl
theorem foldl_push (l : List UInt8) : ∀ s : ByteArray, (l.map (fun u : UInt8 => (u.toNat : Int))).foldl (fun r n => r.push (UInt8.ofNat n.toNat)) s = ⟨s.data ++ l.toArray⟩ := by
  induction l with
  | nil => intro s; simp
  | cons u l ih =>
    intro s
    simp only [List.map_cons, List.foldl_cons, ih]
    simp [ByteArray.push]
theorem run_str {P : Program} {w : World} {src dst e : TypeId} (hs : P.underlying src = some (.slice e)) (he : P.underlying e = some (.int .u8)) (hd : P.underlying dst = some .string)
    (b o len cap : Nat) (l : List UInt8) (hl : l.length = len) (hc : ∀ j u, l[j]? = some u → w.cell? ⟨b, o + j, none⟩ = some (.int .u8 u.toNat)) :
    (convert src dst (.slice (some ⟨b, o, none⟩) len cap)).run P w = .ok (.string ⟨l.toArray⟩) w := by
  rw [run_convert_bytes_string w src dst e _ _ _ hs he hd]
  have h := run_loadCells_list (P := P) (w := w) ⟨b, o, none⟩ ((l.map (fun u : UInt8 => (u.toNat : Int))).map (Value.int .u8)) (fun j v hv => by
    rw [add_none]
    simp only [List.map_map, List.getElem?_map, Option.map_eq_some_iff] at hv
    obtain ⟨u, hu, rfl⟩ := hv
    exact hc j u hu)
  simp only [List.length_map] at h
  rw [hl] at h
  rw [run_bytesToString w _ _ _ _ h, foldl_push]
  simp [ByteArray.empty, ByteArray.emptyWithCapacity]; rfl
theorem run_str1 {P : Program} {src dst e : TypeId} (hs : P.underlying src = some (.slice e)) (he : P.underlying e = some (.int .u8)) (hd : P.underlying dst = some .string)
    (n : Nat) (hn : n < 256) (w : World) : (convert src dst (.slice (some ⟨w.heap.size, 0, none⟩) 1 1)).run P (w.alloc (.cells #[.int .u8 (n : Int)] e)) = .ok (.string ⟨#[UInt8.ofNat n]⟩) (w.alloc (.cells #[.int .u8 (n : Int)] e)) := by
  refine run_str hs he hd _ 0 1 1 [UInt8.ofNat n] rfl (fun j u hj => ?_)
  have hb := (Blk.new w e #[.int .u8 (n : Int)]).cell
  match j, hj with
  | 0, hj =>
    simp at hj; subst hj
    rw [hb]; simp; omega
theorem Blk.newAt {w : World} {g : Nat} {t : TypeId} {cs : Array Value} (h : g = w.heap.size) : Blk (w.alloc (.cells cs t)) g t cs := by subst h; exact Blk.new w t cs
theorem rd_lit {w : World} {g : Nat} {C : Array Value} {e : TypeId} {fz : Nat × Nat} {cs : List Value} (hg : g = w.heap.size) (h : C.toList = cs) : Rd (w.alloc (.cells C e fz)) (some ⟨g, 0, none⟩) cs :=
  rd_new hg fun j u hu => by rw [← Array.getElem?_toList, h]; exact hu
theorem ext_cell {a b : World} {p : Addr} {v : Value} (h : Ext a b) (hc : a.cell? p = some v) : b.cell? p = some v := (h.cell (block_lt_of_cell hc)).trans hc
end Hy
end
section
namespace Hy
def numsLess : List Nat → List Nat → Bool
  | _, [] => false
  | [], _ :: _ => true
  | a :: x, b :: y => decide (a < b) || (decide (a = b) && numsLess x y)
theorem numsLess_step (a b : List Nat) (k : Nat) (h1 : k < a.length) (h2 : k < b.length) (ht : a.take k = b.take k) (e : a[k] = b[k]) : a.take (k + 1) = b.take (k + 1) := by
  rw [List.take_succ_eq_append_getElem h1, List.take_succ_eq_append_getElem h2, ht, e]
theorem numsLess_split : ∀ (k : Nat) (a b : List Nat), a.take k = b.take k → k ≤ a.length → k ≤ b.length → numsLess a b = numsLess (a.drop k) (b.drop k)
  | 0, a, b, _, _, _ => rfl
  | k + 1, [], b, _, h, _ => by simp at h
  | k + 1, a :: x, [], _, _, h => by simp at h
  | k + 1, a :: x, b :: y, ht, h1, h2 => by
    simp only [List.take_succ_cons, List.cons.injEq] at ht
    obtain ⟨rfl, ht⟩ := ht
    simp only [numsLess, Nat.lt_irrefl, decide_false, decide_true, Bool.true_and, Bool.false_or, List.drop_succ_cons]
    exact numsLess_split k x y ht (by simpa using h1) (by simpa using h2)
theorem numsLess_diff (a b : List Nat) (k : Nat) (h1 : k < a.length) (h2 : k < b.length) (ht : a.take k = b.take k) (e : a[k] ≠ b[k]) : numsLess a b = decide (a[k] < b[k]) := by
  rw [numsLess_split k a b ht (by omega) (by omega), List.drop_eq_getElem_cons h1, List.drop_eq_getElem_cons h2, numsLess]
  simp [e]
theorem numsLess_end (a b : List Nat) (ht : a.take (min a.length b.length) = b.take (min a.length b.length)) : numsLess a b = decide (a.length < b.length) := by
  rw [numsLess_split _ a b ht (Nat.min_le_left _ _) (Nat.min_le_right _ _)]
  rcases Nat.lt_or_ge a.length b.length with h | h
  · rw [Nat.min_eq_left (by omega), List.drop_length, List.drop_eq_getElem_cons h]; simp [numsLess, h]
  · rw [Nat.min_eq_right h, List.drop_length]
    have : ¬ a.length < b.length := by omega
    cases a.drop b.length <;> simp [numsLess, this]
end Hy
end
section
namespace Hy
open Go Go.RowKit
structure RowT (P : Program) (t e : TypeId) (size bytes : Nat) : Prop where
  ht : P.underlying t = some (.slice e)
  hi : ∃ i z, P.info? e = some i ∧ i.zero = some z ∧ i.size = size ∧ i.bytes = bytes ∧ z.cells.size = size
  pos : 0 < size
theorem RowT.mk' {P : Program} {t e : TypeId} {z : Value} {size bytes : Nat} (ht : P.underlying t = some (.slice e)) (hi : (P.info? e).map (fun i => (i.zero, i.size, i.bytes)) = some (some z, size, bytes)) (hz : z.cells.size = size) (pos : 0 < size) : RowT P t e size bytes := by
  obtain ⟨i0, h1, h2, h3, h4⟩ := info_parts hi
  exact ⟨ht, ⟨i0, z, h1, h2, h3, h4, hz⟩, pos⟩
section
variable {P : Program} {w : World}
theorem run_app {t tx ty e : TypeId} {size bytes base : Nat} (T : RowT P t e size bytes) (v : Value) (n : Nat) (xs : List Value) (hown : w.ownsRow base e size v n xs)
    (x : Value) (m : Nat) (news : List Value) (hs : Src P size tx x m news w) (h63 : n + m ≤ maxLen) (hbytes : (n + m + (n + m) / 4 + 192) * bytes ≤ 281474976710656) (hbase : base ≤ w.heap.size) :
    ∃ v' w', (Builtin.append_ #[t, tx] ty #[v, x]).run P w = .ok v' w' ∧ w'.ownsRow base e size v' (n + m) (xs ++ news) ∧ w.grownBy w' v.ownBlock ∧
      (v'.ownBlock = v.ownBlock ∨ v'.ownBlock = some w.heap.size) := by
  obtain ⟨ht, ⟨i, z, hi, hz, hsize, hby, hzs⟩, hsz⟩ := T
  subst hsize
  subst hby
  have hl := hs.newsLen
  have hsmall : n + m ≤ 9223372036854775807 := by simp only [maxLen] at h63; omega
  have hlen : (xs ++ news).length = (n + m) * i.size := by rw [List.length_append, hown.1, hl, Nat.add_mul]
  have grown : ∀ (old : Nat), old < n + m → ∀ (row : Option Nat),
      (w.drew.alloc (.cells ((xs ++ news).toArray ++ Builtin.zeroCells z.cells (grownCap w (n + m) old e - (n + m))) e)).ownsRow base e i.size
        (.slice (some ⟨w.heap.size, 0, none⟩) (n + m) (grownCap w (n + m) old e)) (n + m) (xs ++ news) ∧
      w.grownBy (w.drew.alloc (.cells ((xs ++ news).toArray ++ Builtin.zeroCells z.cells (grownCap w (n + m) old e - (n + m))) e)) row := by
    intro old ho row
    have hge := grownCap_ge w (n + m) old e
    have hcm : grownCap w (n + m) old e ≤ maxLen := grownCap_le_maxLen w (n + m) old e h63
    refine ⟨⟨hlen, .inr ⟨w.heap.size, _, _, rfl, hbase, heap_alloc_new w.drew _, hge, hcm, ?_, ?_⟩⟩, ⟨rfl, rfl, rfl, by simp, fun k hk _ => Below.heap_alloc w.drew _ k hk⟩⟩
    · rw [Array.size_append, List.size_toArray, size_zeroCells, hzs, hlen, ← Nat.add_mul]
      congr 1
      omega
    · simp only [Array.toList_append]
      rw [← hlen]
      exact List.take_left
  rcases hown.2 with ⟨rfl, rfl⟩ | ⟨g, cap, cur, rfl, hbg, hg, hnc, hcm, hcs, htake⟩
  · have hx : xs = [] := List.eq_nil_of_length_eq_zero (by simpa using hown.1)
    subst hx
    by_cases hm : m = 0
    · subst hm
      have hn : news = [] := List.eq_nil_of_length_eq_zero (by simpa using hl)
      subst hn
      refine ⟨.slice none 0 0, w, ?_, World.ownsRow_nil w base e i.size, ⟨rfl, rfl, rfl, Nat.le_refl _, fun _ _ _ => rfl⟩, Or.inl rfl⟩
      rcases hs.kind with ⟨e', hk⟩ | hk <;> simp [Builtin.append_, run_underlying ht, run_underlying hk, Go.sizeOf, typeInfo, hi, hs.len, hs.cells]
    · have hr := run_append_grow_src (P := P) w t tx ty e i z ht hi hz none 0 0 [] (run_firstCells_none w.drew i.size 0 0 0) x m news hs (by omega) (by omega) (growslice_fits_wide (by omega) hbytes)
      have hgr := grown 0 (by omega) (Value.ownBlock (.slice none 0 0))
      exact ⟨_, _, hr, hgr.1, hgr.2, Or.inr rfl⟩
  · by_cases hroom : n + m ≤ cap
    · have hfit : n * i.size + news.length ≤ cur.size := by rw [hl, hcs, ← Nat.add_mul]; exact Nat.mul_le_mul_right _ hroom
      have hst := run_storeCells_at P g (n * i.size) e news 0 cur w hg (by simpa using hfit) hs.one
      simp only [Nat.add_zero] at hst
      have hr : (Builtin.append_ #[t, tx] ty #[.slice (some ⟨g, 0, none⟩) n cap, x]).run P w =
          .ok (.slice (some ⟨g, 0, none⟩) (n + m) cap) (w.setRow g (cur.toList.take (n * i.size) ++ news ++ cur.toList.drop (n * i.size + news.length)).toArray) := by
        rcases hs.kind with ⟨e', hk⟩ | hk <;> simp [Builtin.append_, run_underlying ht, run_underlying hk, Go.sizeOf, typeInfo, hi, hs.len, hroom, hs.cells, Addr.add_lit, hst]
      refine ⟨_, _, hr, ⟨hlen, .inr ⟨g, cap, _, rfl, hbg, setRow_heap w g cur _ e _ hg, hroom, hcm, ?_, ?_⟩⟩, ⟨rfl, rfl, rfl, by simp, fun k _ hk => setRow_other w g k _ (fun e => hk (by simp [Value.ownBlock, e]))⟩, Or.inl rfl⟩
      · simp only [List.size_toArray, List.length_append, List.length_take, List.length_drop, Array.length_toList]
        omega
      · rw [htake, ← hlen]
        exact List.take_left
    · have holds : ∀ j u, xs[j]? = some u → w.cell? ((⟨g, 0, none⟩ : Addr).add j) = some u := hown.cells (g := g) rfl
      have hr := run_append_grow_src (P := P) w t tx ty e i z ht hi hz (some ⟨g, 0, none⟩) n cap xs (run_firstCells_some w.drew i.size n ⟨g, 0, none⟩ n cap xs hown.1 (by simpa using holds)) x m news hs (by omega) (by omega) (growslice_fits_wide (by omega) hbytes)
      have hgr := grown cap (by omega) (Value.ownBlock (.slice (some ⟨g, 0, none⟩) n cap))
      exact ⟨_, _, hr, hgr.1, hgr.2, Or.inr rfl⟩
theorem grown_below {base : Nat} {e : TypeId} {size : Nat} {v : Value} {n : Nat} {xs : List Value} {w' : World} (hown : w.ownsRow base e size v n xs) (hg : w.grownBy w' v.ownBlock) (hbase : base ≤ w.heap.size) : Below base w w' :=
  (Below.refl base w).grown hg hbase fun k hk => (hown.lt k hk).1
theorem wp_app {o : Oper} {a : Act} {K : Act → World → Prop} {Q : Exit → Act → World → Prop} (s x : Operand) {t tx e : TypeId} {size bytes base : Nat} (T : RowT P t e size bytes)
    (ho : o.op = .call { callee := .builtin .append, args := #[s, x], argTypes := #[t, tx] })
    (v : Value) (n : Nat) (xs : List Value) (hs : a.eval s = v) (hown : w.ownsRow base e size v n xs) (xv : Value) (m : Nat) (news : List Value) (hx : a.eval x = xv) (hsrc : Src P size tx xv m news w)
    (h63 : n + m ≤ maxLen) (hbytes : (n + m + (n + m) / 4 + 192) * bytes ≤ 281474976710656) (hbase : base ≤ w.heap.size)
    (h : ∀ v' w', w'.ownsRow base e size v' (n + m) (xs ++ news) → w.grownBy w' v.ownBlock → (v'.ownBlock = v.ownBlock ∨ v'.ownBlock = some w.heap.size) → Below base w w' → K (a.put o.dst v') w') : o.wp P a w K Q := by
  obtain ⟨v', w', hr, h2, h3, h4⟩ := run_app (ty := o.type) T v n xs hown xv m news hsrc h63 hbytes hbase
  unfold Oper.wp execOp
  simp only [ho, resolve, invoke, builtin, Sem.run_bind, Sem.run_pure, Result.andThen_ok, List.map_toArray, List.map_cons, List.map_nil, hs, hx, hr]
  exact h v' w' h2 h3 h4 (grown_below hown h3 hbase)
theorem wpList_app {ops : Array Oper} {rest : List Oper} {o : Oper} {a : Act} {Q : Exit → Act → World → Prop} (hgd : o.guard = none) (s x : Operand) {t tx e : TypeId} {size bytes base : Nat} (T : RowT P t e size bytes)
    (ho : o.op = .call { callee := .builtin .append, args := #[s, x], argTypes := #[t, tx] })
    (v : Value) (n : Nat) (xs : List Value) (hs : a.eval s = v) (hown : w.ownsRow base e size v n xs) (xv : Value) (m : Nat) (news : List Value) (hx : a.eval x = xv) (hsrc : Src P size tx xv m news w)
    (h63 : n + m ≤ maxLen) (hbytes : (n + m + (n + m) / 4 + 192) * bytes ≤ 281474976710656) (hbase : base ≤ w.heap.size)
    (h : ∀ v' w', w'.ownsRow base e size v' (n + m) (xs ++ news) → w.grownBy w' v.ownBlock → (v'.ownBlock = v.ownBlock ∨ v'.ownBlock = some w.heap.size) → Below base w w' → wpList P ops Q rest (a.put o.dst v') w') : wpList P ops Q (o :: rest) a w :=
  wpList_plain hgd fun _ hK => wp_app s x T ho v n xs hs hown xv m news hx hsrc h63 hbytes hbase fun v' w' h2 h3 h4 h5 => hK _ _ (h v' w' h2 h3 h4 h5)
theorem own_new {e : TypeId} {size base n : Nat} {C : Array Value} {g : Nat} (hg : g = w.heap.size) (hC : C.size = n * size) (hb : base ≤ w.heap.size) (hn : n ≤ maxLen) :
    (w.alloc (.cells C e)).ownsRow base e size (.slice (some ⟨g, 0, none⟩) n n) n C.toList := by
  subst hg
  refine ⟨by simpa using hC, .inr ⟨w.heap.size, n, C, rfl, hb, by unfold World.alloc; simp, Nat.le_refl _, hn, hC, ?_⟩⟩
  rw [← hC]; exact List.take_of_length_le (by simp)
theorem run_arr_h {t e : TypeId} {n : Nat} (hu : P.underlying t = some (.array n e)) (hi : (P.info? e).isSome = true) (g : Nat) (k : IntKind) (h : Nat) (hh : h ≤ n) :
    (Instr.sliceAt t (.pointer (some ⟨g, 0, none⟩)) none (some (.int k (h : Int))) none).run P w = .ok (.slice (some ⟨g, 0, none⟩) h n) w := by
  obtain ⟨i, hi⟩ := Option.isSome_iff_exists.1 hi
  have hl : P.arrayLen t = n := by unfold Program.arrayLen; rw [hu]
  have he : P.elem t = e := by unfold Program.elem; rw [hu]
  have h0 := run_sliceAt_array_h (P := P) w t ⟨g, 0, none⟩ (by rw [hl, he]; exact hu) k (h : Int) (by omega) (by rw [hl]; omega)
  rw [h0, hl, he]
  simp [Go.sizeOf, typeInfo, hi, slicedAt, add_none]
theorem str_cons (a : UInt8) (l : List UInt8) : (⟨#[a]⟩ : ByteArray) ++ ⟨l.toArray⟩ = ⟨(a :: l).toArray⟩ := by
  apply ByteArray.ext; simp
theorem str_app (l m : List UInt8) : (⟨l.toArray⟩ : ByteArray) ++ ⟨m.toArray⟩ = ⟨(l ++ m).toArray⟩ := by
  apply ByteArray.ext; simp
theorem str_size (l : List UInt8) : (⟨l.toArray⟩ : ByteArray).size = l.length := by simp [ByteArray.size]
theorem str_self (s : ByteArray) : (⟨s.data.toList.toArray⟩ : ByteArray) = s := by simp
/-! ### strings, by their lists -/
theorem run_ix {t : TypeId} (hu : P.underlying t = some .string) (s : ByteArray) (k : IntKind) (i : Nat) (c : UInt8) (hc : s.data.toList[i]? = some c) :
    (Instr.index t (.string s) (.int k (i : Int))).run P w = .ok (.int .u8 c.toNat) w := by
  obtain ⟨h, hb⟩ := List.getElem?_eq_some_iff.1 hc
  have h' : i < s.size := by rw [Array.length_toList] at h; exact h
  rw [run_index_string w t s k i hu, dif_pos (by omega)]
  subst hb
  rfl
theorem run_ix0 {t : TypeId} (hu : P.underlying t = some .string) (s : ByteArray) (k : IntKind) (c : UInt8) (l : List UInt8) (hc : s.data.toList = c :: l) :
    (Instr.index t (.string s) (.int k 0)).run P w = .ok (.int .u8 c.toNat) w := run_ix hu s k 0 c (by rw [hc]; rfl)
theorem run_from {t : TypeId} (hu : P.underlying t = some .string) (s : ByteArray) (k : IntKind) (i : Nat) (h : i ≤ s.size) :
    (Instr.slice t (.string s) (some (.int k (i : Int))) none none).run P w = .ok (.string ⟨(s.data.toList.drop i).toArray⟩) w := by
  rw [run_slice_string_from_if w t s k i hu, if_pos (by omega)]
  congr 2
  apply ByteArray.ext; apply Array.ext'; rw [ext_tail]; rfl
theorem run_to {t : TypeId} (hu : P.underlying t = some .string) (s : ByteArray) (k : IntKind) (j : Nat) (h : j ≤ s.size) :
    (Instr.slice t (.string s) none (some (.int k (j : Int))) none).run P w = .ok (.string ⟨(s.data.toList.take j).toArray⟩) w := by
  rw [run_slice_string_to_if w t s k j hu, if_pos (by omega)]
  congr 2
  apply ByteArray.ext; apply Array.ext'; rw [Int.toNat_natCast, ext_head]
theorem run_fromto {t : TypeId} (hu : P.underlying t = some .string) (s : ByteArray) (k k' : IntKind) (i j : Nat) (hi : i ≤ j) (h : j ≤ s.size) :
    (Instr.slice t (.string s) (some (.int k (i : Int))) (some (.int k' (j : Int))) none).run P w = .ok (.string ⟨((s.data.toList.drop i).take (j - i)).toArray⟩) w := by
  rw [run_slice_string_if w t s k k' i j hu, if_pos (by omega), if_pos (by omega)]
  congr 2
  apply ByteArray.ext; apply Array.ext'; rw [Int.toNat_natCast, Int.toNat_natCast, ext_list]
theorem xor_all : ∀ c : Fin 256, bits BinOp.xor IntKind.u8 IntKind.u8.max (c.val : Int) = 255 - (c.val : Int) := by decide +kernel
theorem xor_u8 (c : UInt8) : bits BinOp.xor IntKind.u8 IntKind.u8.max (c.toNat : Int) = 255 - (c.toNat : Int) := xor_all ⟨c.toNat, c.toNat_lt⟩
theorem or_byte (x b : Nat) (hx : x ≤ 72057594037927935) (hb : b < 256) : bits .or .u64 ((x : Int) * 256) (b : Int) = ((x * 256 + b : Nat) : Int) := by
  have h1 : (BitVec.ofInt 64 ((x : Int) * 256)).toNat = x * 256 := by
    rw [show ((x : Int) * 256) = ((x * 256 : Nat) : Int) from by simp, BitVec.ofInt_natCast, BitVec.toNat_ofNat]
    exact Nat.mod_eq_of_lt (by omega)
  have h2 : (BitVec.ofInt 64 (b : Int)).toNat = b := by
    rw [BitVec.ofInt_natCast, BitVec.toNat_ofNat]; exact Nat.mod_eq_of_lt (by omega)
  have h3 : x * 256 ||| b = x * 256 + b := by
    have := Nat.two_pow_add_eq_or_of_lt (i := 8) (b := b) hb x
    rw [Nat.mul_comm x 256]; exact this.symm
  show IntKind.u64.wrap ((BitVec.ofInt 64 ((x : Int) * 256) ||| BitVec.ofInt 64 (b : Int)).toNat : Int) = _
  rw [BitVec.toNat_or, h1, h2, h3]
  show ((x * 256 + b : Nat) : Int) % 18446744073709551616 = _
  omega
theorem ofNat_mod (m : Nat) : UInt8.ofNat (m % 256) = UInt8.ofNat m := by
  apply UInt8.toNat.inj; rw [UInt8.toNat_ofNat', UInt8.toNat_ofNat']; omega
def u64s (l : List Nat) : List Value := l.map fun n : Nat => Value.int .u64 (n : Int)
theorem u64s_len (l : List Nat) : (u64s l).length = l.length := by simp [u64s]
theorem u64s_one (l : List Nat) : ∀ u ∈ u64s l, u.oneCell' = true := fun u hu => by
  obtain ⟨_, _, rfl⟩ := List.mem_map.1 hu; rfl
theorem u64s_app (l m : List Nat) : u64s (l ++ m) = u64s l ++ u64s m := by simp [u64s]
theorem u64s_get (l : List Nat) (k : Nat) (h : k < l.length) : (u64s l)[k]? = some (.int .u64 ((l[k] : Nat) : Int)) := by simp [u64s, h]
theorem Rd.nums {w : World} {A : Option Addr} {l : List Nat} (h : Rd w A (u64s l)) (k : Nat) (hk : k < l.length) :
    ∃ b o, A = some ⟨b, o, none⟩ ∧ b < w.heap.size ∧ ∀ j (hj : j < l.length), w.cell? ⟨b, o + j, none⟩ = some (.int .u64 ((l[j] : Nat) : Int)) := by
  obtain ⟨b, o, e, hb, hc⟩ := h (by rw [u64s_len]; omega)
  exact ⟨b, o, e, hb, fun j hj => hc j _ (u64s_get l j hj)⟩
def u8s (l : List UInt8) : List Value := l.map fun u => Value.int .u8 u.toNat
theorem u8s_len (l : List UInt8) : (u8s l).length = l.length := by simp [u8s]
theorem u8s_one (l : List UInt8) : ∀ u ∈ u8s l, u.oneCell' = true := fun u hu => by
  obtain ⟨_, _, rfl⟩ := List.mem_map.1 hu; rfl
theorem u8s_app (l m : List UInt8) : u8s (l ++ m) = u8s l ++ u8s m := by simp [u8s]
theorem u8s_set (l : List UInt8) (i z : Nat) (hz : z < 256) : (u8s l).set i (.int .u8 (z : Int)) = u8s (l.set i (UInt8.ofNat z)) := by
  unfold u8s
  rw [List.map_set, UInt8.toNat_ofNat', Nat.mod_eq_of_lt hz]
theorem u8s_string (s : ByteArray) : byteCells s = u8s s.data.toList := rfl
theorem Src.ofList {tx : TypeId} (hk : P.underlying tx = some .string) (l : List UInt8) : Src P 1 tx (.string ⟨l.toArray⟩) l.length (u8s l) w := by
  have h := Src.ofString (P := P) (w := w) hk ⟨l.toArray⟩
  rw [str_size, u8s_string] at h
  exact h
theorem own_ext {base : Nat} {e : TypeId} {size : Nat} {v : Value} {n : Nat} {xs : List Value} {w' : World} (h : w.ownsRow base e size v n xs) (hx : Ext w w') : w'.ownsRow base e size v n xs := by
  refine ⟨h.1, ?_⟩
  rcases h.2 with h | ⟨g, cap, cur, hv, hb, hg, r⟩
  · exact .inl h
  · refine .inr ⟨g, cap, cur, hv, hb, ?_, r⟩
    have hlt : g < w.heap.size := by
      rcases Nat.lt_or_ge g w.heap.size with hlt | hge
      · exact hlt
      · rw [Array.getElem?_eq_none hge] at hg; cases hg
    rw [hx.block g hlt]; exact hg
theorem Src.rd {size : Nat} {tx e' : TypeId} (hk : P.underlying tx = some (.slice e')) (A : Option Addr) (n c : Nat) (news : List Value) (hl : news.length = n * size) (hr : Rd w A news)
    (h1 : ∀ u ∈ news, u.oneCell' = true) (hA : A = none → n = 0) : Src P size tx (.slice A n c) n news w := by
  cases A with
  | none =>
    obtain rfl := hA rfl
    obtain rfl : news = [] := List.eq_nil_of_length_eq_zero (by simpa using hl)
    exact Src.ofNil w hk c
  | some a =>
    refine Src.ofSlice w hk a n c news hl (fun j u hu => ?_) h1
    have hj : 0 < news.length := by
      rcases Nat.eq_zero_or_pos news.length with h0 | h0
      · rw [List.eq_nil_of_length_eq_zero h0] at hu; simp at hu
      · exact h0
    obtain ⟨b, o, e, _, hc⟩ := hr hj
    cases e
    rw [add_none]; exact hc j u hu
theorem Rd.owned {base : Nat} {e : TypeId} {size : Nat} {v : Value} {n : Nat} {xs : List Value} (hown : w.ownsRow base e size v n xs) :
    ∃ A cap, v = .slice A n cap ∧ Rd w A xs ∧ (A = none → n = 0) ∧ n ≤ cap ∧ cap ≤ maxLen := by
  rcases hown.2 with ⟨rfl, rfl⟩ | ⟨g, cap, cur, rfl, hbg, hg, hnc, hcm, hcs, htake⟩
  · refine ⟨none, 0, rfl, fun h => ?_, fun _ => rfl, Nat.le_refl _, Nat.zero_le _⟩
    have := hown.1; simp at this; subst this; simp at h
  · refine ⟨some ⟨g, 0, none⟩, cap, rfl, fun _ => ⟨g, 0, rfl, ?_, fun j u hu => ?_⟩, fun h => (by cases h), hnc, hcm⟩
    · rcases Nat.lt_or_ge g w.heap.size with hlt | hge
      · exact hlt
      · rw [Array.getElem?_eq_none hge] at hg; cases hg
    · have := hown.cells (g := g) rfl j u hu
      rw [add_none] at this; exact this
theorem run_str_rd {src dst e : TypeId} (hs : P.underlying src = some (.slice e)) (he : P.underlying e = some (.int .u8)) (hd : P.underlying dst = some .string)
    (A : Option Addr) (n cap : Nat) (l : List UInt8) (hl : l.length = n) (hr : Rd w A (u8s l)) (hA : A = none → n = 0) :
    (convert src dst (.slice A n cap)).run P w = .ok (.string ⟨l.toArray⟩) w := by
  cases A with
  | none =>
    obtain rfl := hA rfl
    obtain rfl := List.eq_nil_of_length_eq_zero hl
    rw [run_convert_bytes_string w src dst e _ _ _ hs he hd]
    simp [Conv.bytesToString]
    rfl
  | some a =>
    rcases Nat.eq_zero_or_pos n with h0 | h0
    · subst h0
      obtain rfl := List.eq_nil_of_length_eq_zero hl
      rw [run_convert_bytes_string w src dst e _ _ _ hs he hd]
      simp [Conv.bytesToString, loadCells, loadCellsFrom]
      rfl
    · obtain ⟨b, o, e', _, hc⟩ := hr (by rw [u8s_len, hl]; exact h0)
      cases e'
      exact run_str hs he hd b o n cap l hl (fun j u hu => hc j _ (by simp [u8s, hu]))
theorem run_str_own {src dst e : TypeId} (hs : P.underlying src = some (.slice e)) (he : P.underlying e = some (.int .u8)) (hd : P.underlying dst = some .string)
    {base n : Nat} {v : Value} {l : List UInt8} (hown : w.ownsRow base e 1 v n (u8s l)) : (convert src dst v).run P w = .ok (.string ⟨l.toArray⟩) w := by
  obtain ⟨A, cap, rfl, hr, hA, _⟩ := Rd.owned hown
  exact run_str_rd hs he hd A n cap l (by have := hown.1; rw [u8s_len] at this; omega) hr hA
def NumsOut (l : List Nat) (err : Nat) (w : World) (e : Ending) (w' : World) : Prop := ∃ A cap, e = .returned (.tuple #[.slice A l.length cap, .int .i64 err]) ∧ Rd w' A (u64s l) ∧ Ext w w'
end
end Hy
end
section
namespace Hy
open Go Go.RowKit
abbrev But (g : Nat) (w w' : World) : Prop := w.grownBy w' (some g)
variable {w w' w'' : World} {g : Nat}
theorem but_refl (g : Nat) (w : World) : But g w w := ⟨rfl, rfl, rfl, Nat.le_refl _, fun _ _ _ => rfl⟩
theorem But.ext (h : But g w w') (k : Ext w' w'') : But g w w'' :=
  ⟨k.os.trans h.os, k.tape.trans h.tape, k.output.trans h.output, Nat.le_trans h.size k.size, fun i hi hn => (k.block i (Nat.lt_of_lt_of_le hi h.size)).trans (h.block i hi hn)⟩
theorem But.new (h : But g w w') (o : Obj) : But g w (w'.alloc o) := h.ext ((ext_refl w').new o)
theorem But.draws (h : But g w w') (n : Nat) : But g w (w'.drewN n) := ⟨h.os, h.tape, h.output, h.size, h.block⟩
theorem But.put (h : But g w w') (p : Addr) (hp : p.block = g ∨ w.heap.size ≤ p.block) (u : Value) : But g w (w'.setCell p u) := by
  have hb := fun i (hi : i ≠ p.block) => Below.heap_setCell w' p u i hi
  have hs : (w'.setCell p u).heap.size = w'.heap.size := by
    unfold World.setCell; split <;> simp
  refine ⟨?_, ?_, ?_, by rw [hs]; exact h.size, fun i hi hn => ?_⟩
  · rw [show (w'.setCell p u).os = w'.os from by unfold World.setCell; split <;> rfl]; exact h.os
  · rw [show (w'.setCell p u).tape = w'.tape from by unfold World.setCell; split <;> rfl]; exact h.tape
  · rw [show (w'.setCell p u).output = w'.output from by unfold World.setCell; split <;> rfl]; exact h.output
  · rw [hb i (fun e => by
      rcases hp with hp | hp
      · exact hn (by rw [e, hp])
      · omega)]
    exact h.block i hi hn
theorem But.below (h : But g w w') {base : Nat} (hg : base ≤ g) (hw : base ≤ w.heap.size) : Below base w w' :=
  ⟨h.os, h.tape, h.output, h.size, fun k hk => h.block k (by omega) (by intro e; injection e with e; omega)⟩
theorem own_but {base : Nat} {e : TypeId} {size : Nat} {v : Value} {n : Nat} {xs : List Value} (h : w.ownsRow base e size v n xs) (hx : But g w w') (hg : g < base) : w'.ownsRow base e size v n xs := by
  refine ⟨h.1, ?_⟩
  rcases h.2 with h | ⟨b, cap, cur, hv, hb, hgg, r⟩
  · exact .inl h
  · refine .inr ⟨b, cap, cur, hv, hb, ?_, r⟩
    have hlt : b < w.heap.size := by
      rcases Nat.lt_or_ge b w.heap.size with hlt | hge
      · exact hlt
      · rw [Array.getElem?_eq_none hge] at hgg; cases hgg
    rw [hx.block b hlt (by intro e; injection e with e; omega)]; exact hgg
end Hy
end
section
namespace Hy
open Go Go.RowKit
theorem own_set {w : World} {base : Nat} {e : TypeId} {size : Nat} {v : Value} {n : Nat} {xs : List Value} {g c : Nat} (h : w.ownsRow base e size v n xs) (hv : v = .slice (some ⟨g, 0, none⟩) n c) (i : Nat) (u : Value) :
    (w.setCell ⟨g, i, none⟩ u).ownsRow base e size v n (xs.set i u) := by
  refine ⟨by rw [List.length_set]; exact h.1, ?_⟩
  rcases h.2 with ⟨h, _⟩ | ⟨b, cap, cur, hv2, hb, hg, h1, h2, h3, h4⟩
  · rw [hv] at h; cases h
  · rw [hv] at hv2
    injection hv2 with ha _ hcap
    injection ha with ha
    injection ha with ha
    subst ha hcap
    have B : Blk w g e cur := hg
    refine .inr ⟨g, c, cur.setIfInBounds i u, hv, hb, B.set i u, h1, h2, by simpa using h3, ?_⟩
    rw [← h4, Array.toList_setIfInBounds, List.take_set]
end Hy
end
section
namespace Hy
open Go Go.RowKit
theorem own_low' {w : World} {base base' : Nat} {e : TypeId} {size : Nat} {v : Value} {n : Nat} {xs : List Value} (h : w.ownsRow base' e size v n xs) (hb : base ≤ base') : w.ownsRow base e size v n xs := by
  refine ⟨h.1, ?_⟩
  rcases h.2 with h | ⟨g, cap, cur, hv, hg, r⟩
  · exact .inl h
  · exact .inr ⟨g, cap, cur, hv, Nat.le_trans hb hg, r⟩
section
variable {w w' : World} {base : Nat} {e e' : TypeId} {size size' : Nat} {n n' : Nat} {xs ys : List Value}
theorem own_typed {v : Value} (h : w.ownsRow base e size v n xs) {b : Nat} (hb : v.ownBlock = some b) : ∃ cur, w.heap[b]? = some (.cells cur e (0, 0)) := by
  rcases h.2 with ⟨rfl, _⟩ | ⟨g, cap, cur, rfl, _, hg, _⟩
  · cases hb
  · injection hb with hb
    subst hb
    exact ⟨cur, hg⟩
theorem own_ne {v u : Value} {base' : Nat} (h : w.ownsRow base e size v n xs) (k : w.ownsRow base' e' size' u n' ys) (he : e ≠ e') : v.ownBlock = none ∨ v.ownBlock ≠ u.ownBlock := by
  cases hv : v.ownBlock with
  | none => exact .inl rfl
  | some b =>
    right
    intro hu
    obtain ⟨c1, h1⟩ := own_typed h hv
    obtain ⟨c2, h2⟩ := own_typed k hu.symm
    rw [h1] at h2
    injection h2 with h2
    injection h2 with _ h2
    exact he h2
theorem size_put (w : World) (p : Addr) (u : Value) : (w.setCell p u).heap.size = w.heap.size := by unfold World.setCell; split <;> simp
end
theorem Rd.but {w : World} {A : Option Addr} {cs : List Value} (h : Rd w A cs) {a : Addr} (hne : 0 < cs.length → ∀ b, A = some b → b.block ≠ a.block) (u : Value) : Rd (w.setCell a u) A cs := fun hp => by
  obtain ⟨b, o, e, hb, hc⟩ := h hp
  refine ⟨b, o, e, by rw [size_put]; exact hb, fun j u' hu => ?_⟩
  exact (But.put (but_refl a.block w) a (.inl rfl) u).cell (hc j u' hu) (fun e' => hne hp _ e (Option.some.inj e'))
end Hy
end
section
namespace Hy
open Go Go.RowKit
def slF (A : Option Addr) (k cap m : Nat) : Option Addr := if cap = k then A else A.map (·.add (k * m))
section
variable {P : Program} {t e : TypeId} {m : Nat} (hu : P.underlying t = some (.slice e)) (hi : (P.info? e).map (·.size) = some m)
include hi in
theorem sl_size (w : World) : (Go.sizeOf e).run P w = .ok m w := by
  cases hq : P.info? e with
  | none => simp [hq] at hi
  | some i =>
    have : i.size = m := by simpa [hq] using hi
    simp [Go.sizeOf, typeInfo, hq, this]
include hu in
theorem sl_elem : P.underlying t = some (.slice (P.elem t)) := by
  have : P.elem t = e := by unfold Program.elem; rw [hu]
  rw [this]; exact hu
include hu hi
theorem sl_to (A : Option Addr) (len cap : Nat) (kd : IntKind) (k : Nat) (h : k ≤ cap) (w : World) :
    (Instr.sliceAt t (.slice A len cap) none (some (.int kd (k : Int))) none).run P w = .ok (.slice A k cap) w := by
  have he : P.elem t = e := by unfold Program.elem; rw [hu]
  have hu' := sl_elem hu
  rw [run_sliceAt_slice (h := hu'), run_slice_h (ht := hu') (h0 := by omega) (h2 := by omega), he, sl_size hi w]
  simp only [Result.andThen_ok, sliced, Int.toNat_natCast, Nat.zero_mul, Nat.sub_zero]
  congr 2
  split
  · rfl
  · cases A <;> simp [Addr.add]
theorem sl_from (A : Option Addr) (len cap : Nat) (kd : IntKind) (k : Nat) (h : k ≤ len) (w : World) :
    (Instr.sliceAt t (.slice A len cap) (some (.int kd (k : Int))) none none).run P w = .ok (.slice (slF A k cap m) (len - k) (cap - k)) w := by
  have he : P.elem t = e := by unfold Program.elem; rw [hu]
  have hu' := sl_elem hu
  rw [run_sliceAt_slice (h := hu'), run_slice_l (ht := hu') (h0 := by omega) (h1 := by omega), he, sl_size hi w]
  simp only [Result.andThen_ok, sliced, Int.toNat_natCast, slF]
theorem sl_mid (A : Option Addr) (len cap : Nat) (kd kd' : IntKind) (i j : Nat) (h : i ≤ j) (h' : j ≤ cap) (w : World) :
    (Instr.sliceAt t (.slice A len cap) (some (.int kd (i : Int))) (some (.int kd' (j : Int))) none).run P w = .ok (.slice (slF A i cap m) (j - i) (cap - i)) w := by
  have he : P.elem t = e := by unfold Program.elem; rw [hu]
  have hu' := sl_elem hu
  rw [run_sliceAt_slice (h := hu'), run_slice_lh (ht := hu') (h0 := by omega) (h1 := by omega) (h2 := by omega), he, sl_size hi w]
  simp only [Result.andThen_ok, sliced, Int.toNat_natCast, slF]
end
theorem Rd.pre {w : World} {A : Option Addr} {cs ds : List Value} (h : Rd w A (cs ++ ds)) : Rd w A cs := fun hp => by
  obtain ⟨b, o, e, hlt, hc⟩ := h (by simp; omega)
  refine ⟨b, o, e, hlt, fun j u hu => hc j u ?_⟩
  rw [List.getElem?_append_left (List.getElem?_eq_some_iff.1 hu).1]; exact hu
theorem Rd.take {α : Type} {f : α → List Value} {w : World} {A : Option Addr} {l : List α} (h : Rd w A (l.flatMap f)) (k : Nat) : Rd w A ((l.take k).flatMap f) := by
  have e : l.flatMap f = (l.take k).flatMap f ++ (l.drop k).flatMap f := by rw [← List.flatMap_append, List.take_append_drop]
  rw [e] at h
  exact h.pre
theorem flat_drop {α : Type} {f : α → List Value} {m : Nat} (hf : ∀ x, (f x).length = m) (l : List α) (k : Nat) : (l.flatMap f).drop (k * m) = (l.drop k).flatMap f := by
  induction l generalizing k with
  | nil => simp
  | cons x l ih =>
    cases k with
    | zero => simp
    | succ k =>
      rw [List.flatMap_cons, List.drop_append, List.drop_eq_nil_of_le (by rw [hf, Nat.succ_mul]; omega), hf, show (k + 1) * m - m = k * m from by rw [Nat.succ_mul]; omega, ih k]
      simp
theorem Rd.from {α : Type} {f : α → List Value} {m : Nat} (hf : ∀ x, (f x).length = m) {w : World} {A : Option Addr} {l : List α} (h : Rd w A (l.flatMap f)) (k cap : Nat) (hc : l.length ≤ cap) : Rd w (slF A k cap m) ((l.drop k).flatMap f) := fun hp => by
  have hk : k < l.length := by
    rcases Nat.lt_or_ge k l.length with h' | h'
    · exact h'
    · rw [List.drop_eq_nil_of_le h'] at hp; simp at hp
  have hpos : 0 < (l.flatMap f).length := by
    rw [← flat_drop hf, List.length_drop] at hp; omega
  obtain ⟨b, o, e, hlt, hcl⟩ := h hpos
  have hd := Rd.drop (w := w) (b := b) (o := o) (cs := l.flatMap f) (by rw [← e]; exact h) (k * m)
  rw [flat_drop hf] at hd
  unfold slF
  rw [if_neg (by omega), e]
  show ∃ b' o', some ((Addr.mk b o none).add (k * m)) = _ ∧ _
  rw [add_none]
  exact hd hp
end Hy
end
section
namespace Hy
open Go Go.RowKit
theorem Blk.row {w : World} {g : Nat} {t : TypeId} {old : Array Value} (h : Blk w g t old) (cs : Array Value) : Blk (w.setRow g cs) g t cs := setRow_heap w g old cs t _ h
theorem Blk.rowFar {w : World} {g g' : Nat} {t : TypeId} {cs : Array Value} (h : Blk w g t cs) (hne : g ≠ g') (u : Array Value) : Blk (w.setRow g' u) g t cs := (setRow_other w g' g u hne).trans h
theorem wpList_store_blk {P : Program} {ops : Array Oper} {rest : List Oper} {o : Oper} {a : Act} {w : World} {Q : Exit → Act → World → Prop} (hgd : o.guard = none) (ty : TypeId) (x y : Operand) (ho : o.op = .store ty x y)
    (g : Nat) (cells : Array Value) (hx : a.eval x = .pointer (some ⟨g, 0, none⟩)) (hy : a.eval y = .agg cells)
    (t : TypeId) (old : Array Value) (hg : Blk w g t old) (hi : (P.info? ty).map (·.size) = some cells.size)
    (hold : old.size = cells.size) (h1 : cells.all (·.oneCell') = true) (base : Nat) (hb : base ≤ g)
    (h : ∀ w', Blk w' g t cells → (∀ g' t' cs', g' ≠ g → Blk w g' t' cs' → Blk w' g' t' cs') → Below base w w' → wpList P ops Q rest (a.put o.dst undef) w') : wpList P ops Q (o :: rest) a w :=
  wpList_store_row hgd ty x y ho g cells hx hy t old hg hi hold h1
    (h _ (hg.row cells) (fun _ _ _ hne hB => hB.rowFar hne cells) (below_setRow (Below.refl _ _) hb cells))
theorem results_blk {P : Program} {fn : Func} {p : Tmp} {ty : TypeId} (h : fn.results = #[.cell p ty]) (tmps : Array Value) (w : World) (g : Nat) (t : TypeId) (cs : Array Value) (d : TypeDesc)
    (hp : tmps.getD p undef = .pointer (some ⟨g, 0, none⟩)) (hg : Blk w g t cs)
    (hu : P.underlying ty = some d) (hd : (match d with | .struct _ | .array _ _ => true | _ => false) = true) (hi : (P.info? ty).map (·.size) = some cs.size) :
    (results fn tmps).run P w = .ok (.agg cs) w := results_cell_row h tmps w g t cs (0, 0) d hp hg hu hd hi
theorem results_blk2 {P : Program} {fn : Func} {p u : Tmp} {ty : TypeId} (h : fn.results = #[.cell p ty, .tmp u]) (tmps : Array Value) (w : World) (g : Nat) (t : TypeId) (cs : Array Value) (d : TypeDesc)
    (hp : tmps.getD p undef = .pointer (some ⟨g, 0, none⟩)) (hg : Blk w g t cs)
    (hu : P.underlying ty = some d) (hd : (match d with | .struct _ | .array _ _ => true | _ => false) = true) (hi : (P.info? ty).map (·.size) = some cs.size) :
    (results fn tmps).run P w = .ok (.tuple #[.agg cs, tmps.getD u undef]) w := by
  rw [results_cell_tmp h, hp]
  simp only [asAddr, Sem.run_pure, Result.andThen_ok, run_loadVar_row w g t ty cs (0, 0) d hg hu hd hi]
end Hy
end
section
namespace Hy
open Go Go.RowKit
def txs (l : List (List UInt8)) : List Value := l.map fun b => Value.string ⟨b.toArray⟩
theorem txs_len (l : List (List UInt8)) : (txs l).length = l.length := by simp [txs]
theorem txs_one (l : List (List UInt8)) : ∀ u ∈ txs l, u.oneCell' = true := fun u hu => by
  obtain ⟨_, _, rfl⟩ := List.mem_map.1 hu; rfl
theorem txs_app (l m : List (List UInt8)) : txs (l ++ m) = txs l ++ txs m := by simp [txs]
theorem txs_get (l : List (List UInt8)) (k : Nat) (h : k < l.length) : (txs l)[k]? = some (.string ⟨l[k].toArray⟩) := by simp [txs, h]
theorem Rd.texts {w : World} {A : Option Addr} {l : List (List UInt8)} (h : Rd w A (txs l)) (k : Nat) (hk : k < l.length) :
    ∃ b o, A = some ⟨b, o, none⟩ ∧ b < w.heap.size ∧ ∀ j (hj : j < l.length), w.cell? ⟨b, o + j, none⟩ = some (.string ⟨l[j].toArray⟩) := by
  obtain ⟨b, o, e, hb, hc⟩ := h (by rw [txs_len]; omega)
  exact ⟨b, o, e, hb, fun j hj => hc j _ (txs_get l j hj)⟩
theorem take_step {α : Type} (a b : List α) (k : Nat) (h1 : k < a.length) (h2 : k < b.length) (ht : a.take k = b.take k) (e : a[k] = b[k]) : a.take (k + 1) = b.take (k + 1) := by
  rw [List.take_succ_eq_append_getElem h1, List.take_succ_eq_append_getElem h2, ht, e]
def TextsOut (l : List (List UInt8)) (err : Nat) (w : World) (e : Ending) (w' : World) : Prop := ∃ A cap, e = .returned (.tuple #[.slice A l.length cap, .int .i64 err]) ∧ Rd w' A (txs l) ∧ Ext w w'
end Hy
end
end
section
section
namespace Hy
abbrev Cel := Int × Nat × ByteArray
namespace Cel
def bl (s : ByteArray) : List Nat := s.data.toList.map UInt8.toNat
theorem bl_len (s : ByteArray) : (bl s).length = s.size := by rw [bl, List.length_map, Array.length_toList]; rfl
def tless (s t : ByteArray) : Bool := numsLess (bl s) (bl t)
@[irreducible] def less (a b : Cel) : Bool :=
  if a.1 = 0 ∧ b.1 ≠ 0 then true else if b.1 = 0 ∧ a.1 ≠ 0 then false else if a.1 ≠ b.1 then decide (a.1 < b.1) else if a.2.1 ≠ b.2.1 then decide (a.2.1 < b.2.1) else tless a.2.2 b.2.2
/-! the order -/
end Cel
end Hy
end
section
namespace Hy
open Go
abbrev celV (c : Cel) : Value := .agg #[.int .i64 c.1, .int .u64 (c.2.1 : Nat), .string c.2.2]
abbrev celA (c : Cel) : Array Value := #[.int .i64 c.1, .int .u64 (c.2.1 : Nat), .string c.2.2]
end Hy
namespace Hy.Cel
@[irreducible] def alone (kind : Int) (c : Cel) : Nat :=
  if c.1 ≠ 0 ∧ c.1 ≠ kind then 7 else if (c.1 ≠ 1 ∧ c.2.1 ≠ 0) ∨ (c.1 ≠ 2 ∧ c.2.2.size ≠ 0) then 1 else if 16 < c.2.2.size then 2 else 0
end Hy.Cel
namespace Hy.Cel
theorem emptyB (s : ByteArray) : s.toList.isEmpty = decide (s.size = 0) := by
  have h := Go.toList_nil_iff_emptyBytes s
  by_cases e : s.toList = []
  · have := h.1 e
    subst this
    rw [e]; rfl
  · have h2 : ¬ s.size = 0 := fun h0 => e (h.2 (by apply ByteArray.ext; apply Array.eq_empty_of_size_eq_zero; exact h0))
    simp [h2, e]
end Hy.Cel
namespace Hy
open Go Go.RowKit
def cel3 (c : Cel) : List Value := [.int .i64 c.1, .int .u64 (c.2.1 : Nat), .string c.2.2]
def cls (l : List Cel) : List Value := l.flatMap cel3
theorem cls_len (l : List Cel) : (cls l).length = l.length * 3 := flat_length (f := cel3) (m := 3) (fun _ => rfl) l
theorem cls_one (l : List Cel) : ∀ u ∈ cls l, u.oneCell' = true := fun u hu => by
  obtain ⟨a, _, h⟩ := List.mem_flatMap.1 hu
  simp only [cel3, List.mem_cons, List.not_mem_nil, or_false] at h
  rcases h with rfl | rfl | rfl <;> rfl
theorem cls_app (l m : List Cel) : cls (l ++ m) = cls l ++ cls m := by simp [cls]
theorem Rd.cels {w : World} {A : Option Addr} {l : List Cel} (h : Rd w A (cls l)) (k : Nat) (hk : k < l.length) :
    ∃ b o, A = some ⟨b, o, none⟩ ∧ b < w.heap.size ∧ ∀ j (hj : j < l.length), w.cell? ⟨b, o + j * 3, none⟩ = some (.int .i64 l[j].1) ∧ w.cell? ⟨b, o + j * 3 + 1, none⟩ = some (.int .u64 (l[j].2.1 : Nat)) ∧ w.cell? ⟨b, o + j * 3 + 2, none⟩ = some (.string l[j].2.2) := by
  obtain ⟨b, o, e, hb, hc⟩ := h (by rw [cls_len]; omega)
  refine ⟨b, o, e, hb, fun j hj => ⟨?_, ?_, ?_⟩⟩
  · exact hc _ _ (flat_get (f := cel3) (m := 3) (fun _ => rfl) l j hj 0 (by decide))
  · rw [Nat.add_assoc]; exact hc _ _ (flat_get (f := cel3) (m := 3) (fun _ => rfl) l j hj 1 (by decide))
  · rw [Nat.add_assoc]; exact hc _ _ (flat_get (f := cel3) (m := 3) (fun _ => rfl) l j hj 2 (by decide))
namespace Cel
def bad (kind : Int) : List Cel → Nat
  | [] => 0
  | c :: r => if alone kind c = 0 then bad kind r else alone kind c
@[irreducible] def cchk (kind : Int) (l : List Cel) : Nat := if kind ≠ 1 ∧ kind ≠ 2 then 7 else if 64 < l.length then 2 else bad kind l
theorem alone_le (kind : Int) (c : Cel) : alone kind c ≤ 7 := by unfold alone; (repeat' split) <;> omega
theorem bad_at {kind : Int} {l : List Cel} {k : Nat} (h : k < l.length) (ha : alone kind l[k] ≠ 0) : bad kind (l.drop k) = alone kind l[k] := by
  rw [List.drop_eq_getElem_cons h]; simp [bad, ha]
theorem bad_next {kind : Int} {l : List Cel} {k : Nat} (h : k < l.length) (ha : alone kind l[k] = 0) : bad kind (l.drop k) = bad kind (l.drop (k + 1)) := by
  rw [List.drop_eq_getElem_cons h]; simp [bad, ha]
end Cel
end Hy
end
section
namespace Hy
open Go Go.RowKit
section
variable {w w' : World}
abbrev Rw := (Option Addr × Nat × Nat) × List Cel
def RwOk (w : World) (x : Rw) : Prop := x.2.length = x.1.2.1 ∧ x.1.2.1 ≤ x.1.2.2 ∧ (x.1.1 = none → x.1.2.1 = 0) ∧ Rd w x.1.1 (cls x.2)
theorem RwOk.keep {w w' : World} {x : Rw} (h : RwOk w x) (hx : Ext w w') : RwOk w' x := ⟨h.1, h.2.1, h.2.2.1, h.2.2.2.keep hx⟩
end
end Hy
end
end
section
section
namespace Hy.Vary
open Go
/-! ### how many bits -/
theorem bitLenAux_gt : ∀ (f x : Nat), x < 2 ^ f → x < 2 ^ Lib.bitLenAux f x
  | 0, x, h => by simpa [Lib.bitLenAux] using h
  | f + 1, x, h => by
    simp only [Lib.bitLenAux]
    split
    · subst x; simp
    · have := bitLenAux_gt f (x / 2) (by rw [Nat.pow_succ] at h; omega)
      rw [Nat.add_comm, Nat.pow_succ]; omega
theorem bitLen_gt (x : Nat) (h : x < 2 ^ 64) : x < 2 ^ Lib.bitLen x := bitLenAux_gt 64 x h
theorem bitLen_le_iff (x k : Nat) (h : x < 2 ^ 64) (hk : k ≤ 64) : Lib.bitLen x ≤ k ↔ x < 2 ^ k :=
  ⟨fun hb => Nat.lt_of_lt_of_le (bitLen_gt x h) (Nat.pow_le_pow_right (by decide) hb), Lib.bitLen_le x k hk⟩
@[irreducible] def beh (n : Nat) : Nat := min ((Lib.bitLen n - 1) / 7) 8
theorem beh_eq (n : Nat) : beh n = min ((Lib.bitLen n - 1) / 7) 8 := by unfold beh; rfl
theorem beh_le8 (n : Nat) : beh n ≤ 8 := by rw [beh_eq]; omega
theorem beh_le (n k : Nat) (hn : n < 2 ^ 64) (hk : k < 8) : beh n ≤ k ↔ n < 2 ^ (7 * (k + 1)) := by
  rw [← bitLen_le_iff n _ hn (by omega), beh_eq]; omega
theorem beh_of (n i : Nat) (hn : n < 2 ^ 64) (hi : i < 8) (h1 : i = 0 ∨ 128 ^ i ≤ n) (h2 : n < 128 ^ (i + 1)) : beh n = i := by
  have hp : ∀ j, (2 : Nat) ^ (7 * j) = 128 ^ j := fun j => by rw [Nat.pow_mul]
  have hle : beh n ≤ i := (beh_le n i hn hi).2 (by rw [hp]; exact h2)
  rcases h1 with h1 | h1
  · omega
  · rcases Nat.lt_or_ge (beh n) i with h3 | h3
    · have := (beh_le n (i - 1) hn (by omega)).1 (by omega)
      rw [hp, show i - 1 + 1 = i from by omega] at this
      omega
    · omega
theorem beh_of8 (n : Nat) (hn : n < 2 ^ 64) (h : 128 ^ 8 ≤ n) : beh n = 8 := by
  have h8 := beh_le8 n
  rcases Nat.lt_or_ge (beh n) 8 with h3 | h3
  · have := (beh_le n 7 hn (by omega)).1 (by omega)
    omega
  · omega
theorem beh_cases (n : Nat) (hn : n < 2 ^ 64) : (beh n = 0 ∧ n < 128) ∨ (beh n = 1 ∧ 128 ≤ n ∧ n < 16384) ∨ (beh n = 2 ∧ 16384 ≤ n ∧ n < 2097152) ∨ (beh n = 3 ∧ 2097152 ≤ n ∧ n < 268435456) ∨ (beh n = 4 ∧ 268435456 ≤ n ∧ n < 34359738368)
    ∨ (beh n = 5 ∧ 34359738368 ≤ n ∧ n < 4398046511104) ∨ (beh n = 6 ∧ 4398046511104 ≤ n ∧ n < 562949953421312) ∨ (beh n = 7 ∧ 562949953421312 ≤ n ∧ n < 72057594037927936) ∨ (beh n = 8 ∧ 72057594037927936 ≤ n) := by
  have hk := beh_le8 n
  have up : ∀ k, k < 8 → (beh n ≤ k ↔ n < 2 ^ (7 * (k + 1))) := fun k h => beh_le n k hn h
  generalize beh n = b at *
  have hb : b = 0 ∨ b = 1 ∨ b = 2 ∨ b = 3 ∨ b = 4 ∨ b = 5 ∨ b = 6 ∨ b = 7 ∨ b = 8 := by omega
  rcases hb with rfl | rfl | rfl | rfl | rfl | rfl | rfl | rfl | rfl
  · have h1 := (up 0 (by decide)).1 (Nat.le_refl _); simp only [Nat.reduceAdd, Nat.reduceMul, Nat.reducePow] at h1; clear up; omega
  · have h1 := (up 1 (by decide)).1 (Nat.le_refl _); have h2 := mt (up 0 (by decide)).2 (by decide); simp only [Nat.reduceAdd, Nat.reduceMul, Nat.reducePow] at h1 h2; clear up; omega
  · have h1 := (up 2 (by decide)).1 (Nat.le_refl _); have h2 := mt (up 1 (by decide)).2 (by decide); simp only [Nat.reduceAdd, Nat.reduceMul, Nat.reducePow] at h1 h2; clear up; omega
  · have h1 := (up 3 (by decide)).1 (Nat.le_refl _); have h2 := mt (up 2 (by decide)).2 (by decide); simp only [Nat.reduceAdd, Nat.reduceMul, Nat.reducePow] at h1 h2; clear up; omega
  · have h1 := (up 4 (by decide)).1 (Nat.le_refl _); have h2 := mt (up 3 (by decide)).2 (by decide); simp only [Nat.reduceAdd, Nat.reduceMul, Nat.reducePow] at h1 h2; clear up; omega
  · have h1 := (up 5 (by decide)).1 (Nat.le_refl _); have h2 := mt (up 4 (by decide)).2 (by decide); simp only [Nat.reduceAdd, Nat.reduceMul, Nat.reducePow] at h1 h2; clear up; omega
  · have h1 := (up 6 (by decide)).1 (Nat.le_refl _); have h2 := mt (up 5 (by decide)).2 (by decide); simp only [Nat.reduceAdd, Nat.reduceMul, Nat.reducePow] at h1 h2; clear up; omega
  · have h1 := (up 7 (by decide)).1 (Nat.le_refl _); have h2 := mt (up 6 (by decide)).2 (by decide); simp only [Nat.reduceAdd, Nat.reduceMul, Nat.reducePow] at h1 h2; clear up; omega
  · have h2 := mt (up 7 (by decide)).2 (by decide); simp only [Nat.reduceAdd, Nat.reduceMul, Nat.reducePow] at h2; clear up; omega
/-! ### the greatest byte first -/
def be (n : Nat) : Nat → List UInt8
  | 0 => []
  | k + 1 => be (n / 256) k ++ [UInt8.ofNat n]
def unbe (a : Nat) (l : List UInt8) : Nat := l.foldl (fun n b => n * 256 + b.toNat) a
theorem be_len (n k : Nat) : (be n k).length = k := by induction k generalizing n with
  | zero => rfl
  | succ k ih => simp [be, ih]
theorem be_cons (n k : Nat) : be n (k + 1) = UInt8.ofNat (n / 256 ^ k) :: be n k := by
  induction k generalizing n with
  | zero => simp [be]
  | succ k ih => rw [be, ih, Nat.div_div_eq_div_mul, ← Nat.pow_succ']; rfl
theorem be_get (n k j : Nat) (h : j < k) : (be n k)[j]? = some (UInt8.ofNat (n / 256 ^ (k - 1 - j))) := by
  induction k generalizing j with
  | zero => omega
  | succ k ih =>
    rw [be_cons]
    cases j with
    | zero => simp
    | succ j => rw [List.getElem?_cons_succ, ih j (by omega), show k + 1 - 1 - (j + 1) = k - 1 - j from by omega]
theorem unbe_snoc (a : Nat) (l : List UInt8) (b : UInt8) : unbe a (l ++ [b]) = unbe a l * 256 + b.toNat := by simp [unbe]
theorem unbe_cons (a : Nat) (b : UInt8) (l : List UInt8) : unbe a (b :: l) = unbe (a * 256 + b.toNat) l := rfl
theorem unbe_be (a n k : Nat) : unbe a (be n k) = a * 256 ^ k + n % 256 ^ k := by
  induction k generalizing n with
  | zero => simp [be, unbe, Nat.mod_one]
  | succ k ih =>
    have e0 : a * 256 ^ (k + 1) = 256 * (a * 256 ^ k) := by rw [Nat.pow_succ', Nat.mul_left_comm]
    have e1 : n % 256 ^ (k + 1) = n % 256 + 256 * (n / 256 % 256 ^ k) := by rw [Nat.pow_succ']; exact Nat.mod_mul
    rw [be, unbe_snoc, ih, UInt8.toNat_ofNat', e0, e1]
    generalize a * 256 ^ k = q
    generalize n / 256 % 256 ^ k = r
    omega
theorem unbe_eq (a : Nat) (l : List UInt8) : unbe a l = a * 256 ^ l.length + unbe 0 l := by
  induction l generalizing a with
  | nil => simp [unbe]
  | cons b l ih =>
    rw [unbe_cons, unbe_cons, ih, ih (0 * 256 + b.toNat), List.length_cons, Nat.pow_succ']
    simp only [Nat.zero_mul, Nat.zero_add, Nat.add_mul]
    rw [Nat.mul_assoc]; omega
theorem unbe_lt (l : List UInt8) : unbe 0 l < 256 ^ l.length := by
  induction l with
  | nil => simp [unbe]
  | cons b l ih =>
    rw [unbe_cons, unbe_eq, List.length_cons, Nat.pow_succ']
    have hb : b.toNat < 256 := b.toNat_lt
    have : (0 * 256 + b.toNat) * 256 ^ l.length ≤ 255 * 256 ^ l.length := Nat.mul_le_mul_right _ (by omega)
    omega
theorem unbe_lt' (a r : Nat) (l : List UInt8) (h : a < r) : unbe a l < r * 256 ^ l.length := by
  rw [unbe_eq]
  have := unbe_lt l
  have h2 : (a + 1) * 256 ^ l.length ≤ r * 256 ^ l.length := Nat.mul_le_mul_right _ h
  rw [Nat.add_mul, Nat.one_mul] at h2
  omega
theorem unbe_div (a : Nat) (l : List UInt8) : unbe a l / 256 ^ l.length = a := by
  rw [unbe_eq, Nat.mul_comm, Nat.mul_add_div (Nat.pow_pos (by decide)), Nat.div_eq_of_lt (unbe_lt l), Nat.add_zero]
theorem be_unbe (a : Nat) (l : List UInt8) : be (unbe a l) l.length = l := by
  induction l generalizing a with
  | nil => rfl
  | cons b l ih =>
    rw [List.length_cons, be_cons, unbe_cons, unbe_div, ih]
    congr 1
    apply UInt8.toNat.inj
    rw [UInt8.toNat_ofNat']
    have hb : b.toNat < 256 := b.toNat_lt
    omega
theorem shr_cast (n i : Nat) : (n : Int) / 2 ^ (8 * i) % 256 = ((n / 256 ^ i % 256 : Nat) : Int) := by
  rw [show (256 : Nat) ^ i = 2 ^ (8 * i) from by rw [Nat.pow_mul]]
  simp
/-! ### a number's bytes -/
def lead (k : Nat) : Nat := 256 - 2 ^ (8 - k)
@[irreducible] def wr (n : Nat) : List UInt8 := UInt8.ofNat (lead (beh n) + n / 256 ^ beh n) :: be n (beh n)
theorem wr_eq (n : Nat) : wr n = UInt8.ofNat (lead (beh n) + n / 256 ^ beh n) :: be n (beh n) := by unfold wr; rfl
theorem wr_len (n : Nat) : (wr n).length = beh n + 1 := by rw [wr_eq]; simp [be_len]
theorem top_lt (n : Nat) (hn : n < 2 ^ 64) : n / 256 ^ beh n < 2 ^ (7 - beh n) := by
  rcases beh_cases n hn with ⟨e, h⟩ | ⟨e, h⟩ | ⟨e, h⟩ | ⟨e, h⟩ | ⟨e, h⟩ | ⟨e, h⟩ | ⟨e, h⟩ | ⟨e, h⟩ | ⟨e, h⟩ <;> rw [e] <;> simp only [Nat.reducePow, Nat.reduceSub] at * <;> omega
theorem lead_add : ∀ k : Fin 9, lead k.val + 2 ^ (7 - k.val) ≤ 256 ∧ (k.val < 8 → lead k.val + 2 ^ (7 - k.val) = lead (k.val + 1)) := by decide
theorem lead_next : ∀ k : Fin 8, lead (k.val + 1) = lead k.val / 2 + 128 := by decide
theorem lead_lt (k : Nat) : lead k ≤ 255 := by unfold lead; have := Nat.two_pow_pos (8 - k); omega
theorem or_lead : ∀ (k : Fin 8) (r : Fin 128), r.val < 2 ^ (7 - k.val) → bits .or .u8 (255 * 2 ^ (8 - k.val) % 256) (r.val : Int) = ((lead k.val + r.val : Nat) : Int) := by decide +kernel
theorem or_first (n k : Nat) (hk : k < 8) (h : n / 256 ^ k < 2 ^ (7 - k)) : bits .or .u8 (255 * 2 ^ (8 - k) % 256) ((n : Int) / 2 ^ (8 * k) % 256) = ((lead k + n / 256 ^ k : Nat) : Int) := by
  have h1 : 2 ^ (7 - k) ≤ 2 ^ 7 := Nat.pow_le_pow_right (by decide) (by omega)
  have h2 : n / 256 ^ k < 128 := by omega
  rw [shr_cast, Nat.mod_eq_of_lt (by omega)]
  exact or_lead ⟨k, hk⟩ ⟨n / 256 ^ k, h2⟩ h
theorem first_lt (n : Nat) (hn : n < 2 ^ 64) : lead (beh n) + n / 256 ^ beh n < 256 := by
  have h1 := top_lt n hn
  have h2 := (lead_add ⟨beh n, by have := beh_le8 n; omega⟩).1
  simp only at h2
  omega
/-! ### how many ones a byte begins with -/
def ones (c : Nat) : Nat := 8 - Lib.bitLen (255 - c)
theorem ones_all : ∀ c : Fin 256, ones c.val ≤ 8 ∧ lead (ones c.val) ≤ c.val ∧ c.val < lead (ones c.val) + 2 ^ (7 - ones c.val) ∧ (ones c.val < 8 → c.val &&& (127 >>> ones c.val) = c.val - lead (ones c.val)) := by decide +kernel
theorem ones_and_all : ∀ c : Fin 256, ones c.val < 8 → bits .and .u64 (c.val : Int) (127 / 2 ^ ones c.val) = ((c.val - lead (ones c.val) : Nat) : Int) := by decide +kernel
theorem ones_and (c : UInt8) (h : ones c.toNat < 8) : bits .and .u64 (c.toNat : Int) (127 / 2 ^ ones c.toNat) = ((c.toNat - lead (ones c.toNat) : Nat) : Int) := ones_and_all ⟨c.toNat, c.toNat_lt⟩ h
theorem ones_fact (c : UInt8) : ones c.toNat ≤ 8 ∧ lead (ones c.toNat) ≤ c.toNat ∧ c.toNat < lead (ones c.toNat) + 2 ^ (7 - ones c.toNat) ∧ (ones c.toNat < 8 → c.toNat &&& (127 >>> ones c.toNat) = c.toNat - lead (ones c.toNat)) :=
  ones_all ⟨c.toNat, c.toNat_lt⟩
theorem ones_of_all : ∀ (k : Fin 9) (c : Fin 256), lead k.val ≤ c.val → c.val < lead k.val + 2 ^ (7 - k.val) → ones c.val = k.val := by decide +kernel
theorem ones_of (k c : Nat) (hk : k ≤ 8) (hc : c < 256) (h1 : lead k ≤ c) (h2 : c < lead k + 2 ^ (7 - k)) : ones c = k := ones_of_all ⟨k, by omega⟩ ⟨c, hc⟩ h1 h2
@[irreducible] def rd (s : List UInt8) : Nat × Nat × Nat :=
  match s with
  | [] => (0, 0, 5)
  | c :: t =>
    if t.length < ones c.toNat then (0, 0, 5) else
      if beh (unbe (c.toNat - lead (ones c.toNat)) (t.take (ones c.toNat))) = ones c.toNat then (unbe (c.toNat - lead (ones c.toNat)) (t.take (ones c.toNat)), ones c.toNat + 1, 0) else (0, 0, 1)
theorem rd_nil : rd [] = (0, 0, 5) := by unfold rd; rfl
theorem rd_short (c : UInt8) (t : List UInt8) (h : t.length < ones c.toNat) : rd (c :: t) = (0, 0, 5) := by unfold rd; simp [h]
theorem rd_cons (c : UInt8) (t : List UInt8) (h : ¬ t.length < ones c.toNat) :
    rd (c :: t) = if beh (unbe (c.toNat - lead (ones c.toNat)) (t.take (ones c.toNat))) = ones c.toNat then (unbe (c.toNat - lead (ones c.toNat)) (t.take (ones c.toNat)), ones c.toNat + 1, 0) else (0, 0, 1) := by unfold rd; simp [h]
theorem num_lt (c : UInt8) (t : List UInt8) (h : ¬ t.length < ones c.toNat) : unbe (c.toNat - lead (ones c.toNat)) (t.take (ones c.toNat)) < 2 ^ 64 := by
  obtain ⟨h8, h1, h2, _⟩ := ones_fact c
  have h3 := unbe_lt' (c.toNat - lead (ones c.toNat)) (2 ^ (7 - ones c.toNat)) (t.take (ones c.toNat)) (by omega)
  rw [List.length_take, Nat.min_eq_left (by omega)] at h3
  generalize ones c.toNat = k at *
  refine Nat.lt_of_lt_of_le h3 ?_
  have : k = 0 ∨ k = 1 ∨ k = 2 ∨ k = 3 ∨ k = 4 ∨ k = 5 ∨ k = 6 ∨ k = 7 ∨ k = 8 := by omega
  rcases this with rfl | rfl | rfl | rfl | rfl | rfl | rfl | rfl | rfl <;> decide
theorem part_le (c : UInt8) (t : List UInt8) (i : Nat) (h : ¬ t.length < ones c.toNat) (hi : i < ones c.toNat) : unbe (c.toNat - lead (ones c.toNat)) ((t.take (ones c.toNat)).take i) ≤ 72057594037927935 := by
  obtain ⟨h8, h1, h2, _⟩ := ones_fact c
  have h3 := unbe_lt' (c.toNat - lead (ones c.toNat)) (2 ^ (7 - ones c.toNat)) ((t.take (ones c.toNat)).take i) (by omega)
  rw [List.length_take, List.length_take, Nat.min_eq_left (by omega)] at h3
  generalize ones c.toNat = k at *
  have h4 : 256 ^ i ≤ 256 ^ (k - 1) := Nat.pow_le_pow_right (by decide) (by omega)
  have h5 : 2 ^ (7 - k) * 256 ^ i ≤ 2 ^ (7 - k) * 256 ^ (k - 1) := Nat.mul_le_mul_left _ h4
  have h6 : 2 ^ (7 - k) * 256 ^ (k - 1) ≤ 72057594037927936 := by
    have : k = 0 ∨ k = 1 ∨ k = 2 ∨ k = 3 ∨ k = 4 ∨ k = 5 ∨ k = 6 ∨ k = 7 ∨ k = 8 := by omega
    rcases this with rfl | rfl | rfl | rfl | rfl | rfl | rfl | rfl | rfl <;> decide
  omega
theorem wr_num (c : UInt8) (t : List UInt8) (h : ¬ t.length < ones c.toNat) (hb : beh (unbe (c.toNat - lead (ones c.toNat)) (t.take (ones c.toNat))) = ones c.toNat) :
    wr (unbe (c.toNat - lead (ones c.toNat)) (t.take (ones c.toNat))) = c :: t.take (ones c.toNat) := by
  obtain ⟨h8, h1, h2, _⟩ := ones_fact c
  have hl : (t.take (ones c.toNat)).length = ones c.toNat := by rw [List.length_take]; omega
  have e1 := unbe_div (c.toNat - lead (ones c.toNat)) (t.take (ones c.toNat))
  have e2 := be_unbe (c.toNat - lead (ones c.toNat)) (t.take (ones c.toNat))
  rw [hl] at e1 e2
  rw [wr_eq, hb, e1, e2]
  congr 1
  apply UInt8.toNat.inj
  rw [UInt8.toNat_ofNat']
  have hc : c.toNat < 256 := c.toNat_lt
  omega
theorem rd_cases (s : List UInt8) : (rd s = (0, 0, 5)) ∨ (rd s = (0, 0, 1)) ∨ (∃ n k, rd s = (n, k + 1, 0) ∧ k ≤ 8 ∧ k + 1 ≤ s.length ∧ n < 2 ^ 64 ∧ wr n = s.take (k + 1)) := by
  match s with
  | [] => exact .inl rd_nil
  | c :: t =>
    by_cases h : t.length < ones c.toNat
    · exact .inl (rd_short c t h)
    · rw [rd_cons c t h]
      by_cases hb : beh (unbe (c.toNat - lead (ones c.toNat)) (t.take (ones c.toNat))) = ones c.toNat
      · rw [if_pos hb]
        exact .inr (.inr ⟨_, _, rfl, (ones_fact c).1, by simp only [List.length_cons]; omega, num_lt c t h, by rw [wr_num c t h hb]; rfl⟩)
      · rw [if_neg hb]; exact .inr (.inl rfl)
theorem wr_head (n : Nat) (hn : n < 2 ^ 64) : ∃ c : UInt8, wr n = c :: be n (beh n) ∧ ones c.toNat = beh n ∧ c.toNat - lead (beh n) = n / 256 ^ beh n := by
  have h1 := first_lt n hn
  have e : (UInt8.ofNat (lead (beh n) + n / 256 ^ beh n)).toNat = lead (beh n) + n / 256 ^ beh n := by rw [UInt8.toNat_ofNat']; exact Nat.mod_eq_of_lt h1
  refine ⟨_, wr_eq n, ?_, by rw [e]; exact Nat.add_sub_cancel_left _ _⟩
  rw [e]
  exact ones_of _ _ (beh_le8 n) h1 (Nat.le_add_right _ _) (Nat.add_lt_add_left (top_lt n hn) _)
theorem rd_wr (n : Nat) (b : List UInt8) (hn : n < 2 ^ 64) : rd (wr n ++ b) = (n, beh n + 1, 0) := by
  obtain ⟨c, e, ho, ht⟩ := wr_head n hn
  have hl : (be n (beh n) ++ b).take (beh n) = be n (beh n) := by rw [List.take_append_of_le_length (by rw [be_len]; omega), List.take_of_length_le (by rw [be_len]; omega)]
  have en : unbe (n / 256 ^ beh n) (be n (beh n)) = n := by rw [unbe_be, Nat.mul_comm]; exact Nat.div_add_mod _ _
  rw [e, List.cons_append, rd_cons _ _ (by rw [ho, List.length_append, be_len]; omega), ho, hl, ht, en, if_pos rfl]
theorem rd_cut (n k : Nat) (hn : n < 2 ^ 64) (hk : k < (wr n).length) : rd ((wr n).take k) = (0, 0, 5) := by
  obtain ⟨c, e, ho, ht⟩ := wr_head n hn
  rw [wr_len] at hk
  cases k with
  | zero => exact rd_nil
  | succ k => rw [e, List.take_succ_cons]; exact rd_short _ _ (by rw [ho, List.length_take, be_len]; omega)
/-! ### the order -/
/-! ### lists -/
@[irreducible] def all (l : List Nat) : List UInt8 := l.flatMap wr
theorem all_cons (n : Nat) (l : List Nat) : all (n :: l) = wr n ++ all l := by unfold all; rfl
def rdf : Nat → List UInt8 → List Nat × Nat
  | 0, _ => ([], 0)
  | f + 1, s => if s = [] then ([], 0) else if (rd s).2.2 = 0 then ((rd s).1 :: (rdf f (s.drop (rd s).2.1)).1, (rdf f (s.drop (rd s).2.1)).2) else ([], (rd s).2.2)
@[irreducible] def many (s : List UInt8) : List Nat × Nat := rdf s.length s
theorem rd_ok {s : List UInt8} (h : (rd s).2.2 = 0) : 1 ≤ (rd s).2.1 ∧ (rd s).2.1 ≤ s.length ∧ (rd s).2.1 ≤ 9 ∧ (rd s).1 < 2 ^ 64 ∧ wr (rd s).1 = s.take (rd s).2.1 := by
  rcases rd_cases s with e | e | ⟨n, k, e, h8, hk, hn, hw⟩
  · rw [e] at h; cases h
  · rw [e] at h; cases h
  · rw [e]; exact ⟨by simp, hk, by simp; omega, hn, hw⟩
end Hy.Vary
end
section
namespace Hy.Front
open Go Hy.Vary
abbrev Tx := List UInt8
def shr : Tx → Tx → Nat
  | x :: a, y :: b => if x = y then shr a b + 1 else 0
  | _, _ => 0
theorem shr_nil (b : Tx) : shr [] b = 0 := by cases b <;> rfl
theorem shr_le : ∀ a b : Tx, shr a b ≤ a.length ∧ shr a b ≤ b.length
  | [], b => by rw [shr_nil]; simp
  | a :: x, [] => by simp [shr]
  | a :: x, b :: y => by
    have := shr_le x y
    simp only [shr, List.length_cons]
    split <;> omega
theorem shr_take : ∀ a b : Tx, a.take (shr a b) = b.take (shr a b)
  | [], b => by rw [shr_nil]; simp
  | a :: x, [] => by simp [shr]
  | a :: x, b :: y => by
    simp only [shr]
    split
    · rename_i h; subst h; rw [List.take_succ_cons, List.take_succ_cons, shr_take x y]
    · simp
theorem shr_ge : ∀ (k : Nat) (a b : Tx), a.take k = b.take k → k ≤ a.length → k ≤ b.length → k ≤ shr a b
  | 0, _, _, _, _, _ => Nat.zero_le _
  | k + 1, [], b, _, h, _ => by simp at h
  | k + 1, a :: x, [], _, _, h => by simp at h
  | k + 1, a :: x, b :: y, ht, h1, h2 => by
    simp only [List.take_succ_cons, List.cons.injEq] at ht
    simp only [shr, if_pos ht.1]
    have := shr_ge k x y ht.2 (by simpa using h1) (by simpa using h2)
    omega
theorem shr_more (a b : Tx) (k : Nat) (ht : a.take k = b.take k) (h1 : k < a.length) (h2 : k < b.length) (e : a[k] = b[k]) : a.take (k + 1) = b.take (k + 1) := by
  rw [List.take_succ_eq_append_getElem h1, List.take_succ_eq_append_getElem h2, ht, e]
theorem shr_stop (a b : Tx) (k : Nat) (ht : a.take k = b.take k) (h1 : k ≤ a.length) (h2 : k ≤ b.length) (h : ∀ (ha : k < a.length) (hb : k < b.length), a[k] ≠ b[k]) : shr a b = k := by
  have h3 := shr_ge k a b ht h1 h2
  rcases Nat.lt_or_ge k (shr a b) with h4 | h4
  · have h5 := shr_le a b
    have h6 := congrArg (fun l : Tx => l[k]?) (shr_take a b)
    simp only [List.getElem?_take_of_lt h4] at h6
    rw [List.getElem?_eq_getElem (by omega), List.getElem?_eq_getElem (by omega), Option.some.injEq] at h6
    exact absurd h6 (h (by omega) (by omega))
  · omega
theorem shr_iff (a b : Tx) (k : Nat) (h1 : k ≤ a.length) (h2 : k ≤ b.length) : k ≤ shr a b ↔ a.take k = b.take k := by
  refine ⟨fun h => ?_, fun h => shr_ge k a b h h1 h2⟩
  have := congrArg (List.take k) (shr_take a b)
  rw [List.take_take, List.take_take, Nat.min_eq_left h] at this
  exact this
/-! ### a list's bytes -/
def one (last s : Tx) : Tx := wr (shr last s) ++ (wr (s.length - shr last s) ++ s.drop (shr last s))
def enc : Tx → List Tx → Tx
  | _, [] => []
  | last, s :: r => one last s ++ enc s r
theorem enc_snoc (last : Tx) (l : List Tx) (s : Tx) : enc last (l ++ [s]) = enc last l ++ one (l.getLastD last) s := by
  induction l generalizing last with
  | nil => simp [enc]
  | cons t l ih => rw [List.cons_append, enc, enc, ih, List.append_assoc, List.getLastD_cons]
@[irreducible] def bytes (l : List Tx) : Tx := enc [] l
theorem bytes_eq (l : List Tx) : bytes l = enc [] l := by unfold bytes; rfl
def fitB (l : List Tx) : Bool := l.all fun s => decide (s.length ≤ 16)
theorem fitB_iff (l : List Tx) : fitB l = true ↔ ∀ s ∈ l, s.length ≤ 16 := by simp [fitB]
@[irreducible] def wrt (l : List Tx) : Tx × Nat := if l.length ≤ 64 ∧ fitB l = true then (bytes l, 0) else ([], 2)
theorem wrt_ok {l : List Tx} (h1 : l.length ≤ 64) (h2 : fitB l = true) : wrt l = (bytes l, 0) := by unfold wrt; rw [if_pos ⟨h1, h2⟩]
theorem wrt_bad {l : List Tx} (h : ¬ (l.length ≤ 64 ∧ fitB l = true)) : wrt l = ([], 2) := by unfold wrt; rw [if_neg h]
/-! ### reading -/
@[irreducible] def txt (s last : Tx) : Tx × Tx × Nat :=
  if (rd s).2.2 ≠ 0 then ([], [], (rd s).2.2) else
  if (rd (s.drop (rd s).2.1)).2.2 ≠ 0 then ([], [], (rd (s.drop (rd s).2.1)).2.2) else
  if last.length < (rd s).1 then ([], [], 3) else
  if 16 - (rd s).1 < (rd (s.drop (rd s).2.1)).1 then ([], [], 2) else
  if ((s.drop (rd s).2.1).drop (rd (s.drop (rd s).2.1)).2.1).length < (rd (s.drop (rd s).2.1)).1 then ([], [], 5) else
  if shr last (last.take (rd s).1 ++ ((s.drop (rd s).2.1).drop (rd (s.drop (rd s).2.1)).2.1).take (rd (s.drop (rd s).2.1)).1) ≠ (rd s).1 then ([], [], 1) else
  (last.take (rd s).1 ++ ((s.drop (rd s).2.1).drop (rd (s.drop (rd s).2.1)).2.1).take (rd (s.drop (rd s).2.1)).1,
    ((s.drop (rd s).2.1).drop (rd (s.drop (rd s).2.1)).2.1).drop (rd (s.drop (rd s).2.1)).1, 0)
section
variable {s last s1 s2 : Tx} {n k e m j f : Nat}
theorem txt_1 (h1 : rd s = (n, k, e)) (he : e ≠ 0) : txt s last = ([], [], e) := by unfold txt; rw [h1]; simp [he]
theorem txt_2 (h1 : rd s = (n, k, 0)) (hs1 : s1 = s.drop k) (h2 : rd s1 = (m, j, f)) (hf : f ≠ 0) : txt s last = ([], [], f) := by subst hs1; unfold txt; rw [h1]; simp [h2, hf]
theorem txt_3 (h1 : rd s = (n, k, 0)) (hs1 : s1 = s.drop k) (h2 : rd s1 = (m, j, 0)) (h3 : last.length < n) : txt s last = ([], [], 3) := by subst hs1; unfold txt; rw [h1]; simp [h2, h3]
theorem txt_4 (h1 : rd s = (n, k, 0)) (hs1 : s1 = s.drop k) (h2 : rd s1 = (m, j, 0)) (h3 : ¬ last.length < n) (h4 : 16 - n < m) : txt s last = ([], [], 2) := by subst hs1; unfold txt; rw [h1]; simp [h2, h3, h4]
theorem txt_5 (h1 : rd s = (n, k, 0)) (hs1 : s1 = s.drop k) (h2 : rd s1 = (m, j, 0)) (h3 : ¬ last.length < n) (h4 : ¬ 16 - n < m) (hs2 : s2 = s1.drop j) (h5 : s2.length < m) : txt s last = ([], [], 5) := by
  subst hs2 hs1; unfold txt; simp only [h1, h2]; rw [if_neg (by simp), if_neg (by simp), if_neg h3, if_neg h4, if_pos h5]
theorem txt_6 (h1 : rd s = (n, k, 0)) (hs1 : s1 = s.drop k) (h2 : rd s1 = (m, j, 0)) (h3 : ¬ last.length < n) (h4 : ¬ 16 - n < m) (hs2 : s2 = s1.drop j) (h5 : ¬ s2.length < m) (h6 : shr last (last.take n ++ s2.take m) ≠ n) : txt s last = ([], [], 1) := by
  subst hs2 hs1; unfold txt; simp only [h1, h2]; rw [if_neg (by simp), if_neg (by simp), if_neg h3, if_neg h4, if_neg h5, if_pos h6]
theorem txt_7 (h1 : rd s = (n, k, 0)) (hs1 : s1 = s.drop k) (h2 : rd s1 = (m, j, 0)) (h3 : ¬ last.length < n) (h4 : ¬ 16 - n < m) (hs2 : s2 = s1.drop j) (h5 : ¬ s2.length < m) (h6 : shr last (last.take n ++ s2.take m) = n) : txt s last = (last.take n ++ s2.take m, s2.drop m, 0) := by
  subst hs2 hs1; unfold txt; simp only [h1, h2]; rw [if_neg (by simp), if_neg (by simp), if_neg h3, if_neg h4, if_neg h5, if_neg (by simpa using h6)]
end
theorem txt_ok {s last t r : Tx} (hl : last.length ≤ 16) (h : txt s last = (t, r, 0)) : s = one last t ++ r ∧ t.length ≤ 16 := by
  obtain ⟨n, k, e, h1⟩ : ∃ n k e, rd s = (n, k, e) := ⟨_, _, _, rfl⟩
  by_cases he : e = 0
  · subst he
    obtain ⟨m, j, f, h2⟩ : ∃ m j f, rd (s.drop k) = (m, j, f) := ⟨_, _, _, rfl⟩
    by_cases hf : f = 0
    · subst hf
      by_cases h3 : last.length < n
      · rw [txt_3 h1 rfl h2 h3] at h; simp at h
      · by_cases h4 : 16 - n < m
        · rw [txt_4 h1 rfl h2 h3 h4] at h; simp at h
        · by_cases h5 : ((s.drop k).drop j).length < m
          · rw [txt_5 h1 rfl h2 h3 h4 rfl h5] at h; simp at h
          · by_cases h6 : shr last (last.take n ++ ((s.drop k).drop j).take m) = n
            · rw [txt_7 h1 rfl h2 h3 h4 rfl h5 h6] at h
              simp only [Prod.mk.injEq, and_true] at h
              obtain ⟨rfl, rfl⟩ := h
              obtain ⟨_, k2, _, _, w1⟩ := rd_ok (s := s) (by rw [h1])
              obtain ⟨_, j2, _, _, w2⟩ := rd_ok (s := s.drop k) (by rw [h2])
              rw [h1] at w1 k2
              rw [h2] at w2 j2
              simp only at w1 w2 k2 j2
              have ln : (last.take n).length = n := by rw [List.length_take]; omega
              have lm : (((s.drop k).drop j).take m).length = m := by rw [List.length_take]; omega
              refine ⟨?_, by rw [List.length_append, ln, lm]; omega⟩
              unfold one
              rw [h6, List.length_append, ln, lm, Nat.add_sub_cancel_left, List.drop_left' ln, w1, w2, List.append_assoc, List.append_assoc, List.take_append_drop, List.take_append_drop, List.take_append_drop]
            · rw [txt_6 h1 rfl h2 h3 h4 rfl h5 h6] at h; simp at h
    · rw [txt_2 h1 rfl h2 hf] at h; simp at h; omega
  · rw [txt_1 h1 he] at h; simp at h; omega
theorem txt_one (last s r : Tx) (hs : s.length ≤ 16) (hl : last.length ≤ 16) : txt (one last s ++ r) last = (s, r, 0) := by
  have hle := shr_le last s
  have ht := shr_take last s
  have hw1 : rd (one last s ++ r) = (shr last s, beh (shr last s) + 1, 0) := by
    unfold one; rw [List.append_assoc]; exact rd_wr _ _ (by omega)
  have hd1 : (one last s ++ r).drop (beh (shr last s) + 1) = wr (s.length - shr last s) ++ (s.drop (shr last s) ++ r) := by
    unfold one; rw [List.append_assoc, List.append_assoc, List.drop_left' (wr_len _)]
  have hw2 : rd (wr (s.length - shr last s) ++ (s.drop (shr last s) ++ r)) = (s.length - shr last s, beh (s.length - shr last s) + 1, 0) := rd_wr _ _ (by omega)
  have hd2 : (wr (s.length - shr last s) ++ (s.drop (shr last s) ++ r)).drop (beh (s.length - shr last s) + 1) = s.drop (shr last s) ++ r := List.drop_left' (wr_len _)
  have hl2 : (s.drop (shr last s)).length = s.length - shr last s := List.length_drop
  have hx : last.take (shr last s) ++ (s.drop (shr last s) ++ r).take (s.length - shr last s) = s := by
    rw [ht, List.take_left' hl2, List.take_append_drop]
  have := txt_7 (last := last) hw1 hd1.symm hw2 (by omega) (by omega) hd2.symm (by rw [List.length_append]; omega) (by rw [hx])
  rw [this, hx, List.drop_left' hl2]
def rds : Nat → Tx → Tx → List Tx × Nat
  | 0, s, _ => if s = [] then ([], 0) else ([], 1)
  | k + 1, s, last => if (txt s last).2.2 ≠ 0 then ([], (txt s last).2.2) else ((txt s last).1 :: (rds k (txt s last).2.1 (txt s last).1).1, (rds k (txt s last).2.1 (txt s last).1).2)
theorem rds_ok {k : Nat} {s last t r : Tx} (h : txt s last = (t, r, 0)) : rds (k + 1) s last = (t :: (rds k r t).1, (rds k r t).2) := by simp [rds, h]
theorem rds_bad {k e : Nat} {s last t r : Tx} (h : txt s last = (t, r, e)) (he : e ≠ 0) : rds (k + 1) s last = ([], e) := by simp [rds, h, he]
theorem rds_enc (l : List Tx) (last : Tx) (h : ∀ s ∈ l, s.length ≤ 16) (hl : last.length ≤ 16) : rds l.length (enc last l) last = (l, 0) := by
  induction l generalizing last with
  | nil => simp [rds, enc]
  | cons s l ih =>
    have hs := h s (by simp)
    rw [List.length_cons, enc, rds_ok (txt_one last s (enc s l) hs hl), ih s (fun t ht => h t (by simp [ht])) hs]
theorem rds_only : ∀ (k : Nat) (s last : Tx) (l : List Tx), last.length ≤ 16 → rds k s last = (l, 0) → s = enc last l ∧ l.length = k ∧ ∀ t ∈ l, t.length ≤ 16
  | 0, s, last, l, _, h => by
    by_cases hs : s = []
    · simp only [rds, if_pos hs, Prod.mk.injEq, and_true] at h; subst h; subst hs; exact ⟨rfl, rfl, fun t ht => by cases ht⟩
    · simp [rds, hs] at h
  | k + 1, s, last, l, hl, h => by
    obtain ⟨t, r, e, ht⟩ : ∃ t r e, txt s last = (t, r, e) := ⟨_, _, _, rfl⟩
    by_cases he : e = 0
    · subst he
      rw [rds_ok ht] at h
      simp only [Prod.mk.injEq] at h
      obtain ⟨h1, h2⟩ := h
      obtain ⟨g1, g2⟩ := txt_ok hl ht
      obtain ⟨g3, g4, g5⟩ := rds_only k r t (rds k r t).1 g2 (by rw [← h2])
      subst h1
      exact ⟨by rw [enc, ← g3, g1], by rw [List.length_cons, g4], fun x hx => by rcases List.mem_cons.1 hx with rfl | hx; exact g2; exact g5 x hx⟩
    · rw [rds_bad ht he] at h; simp at h; omega
@[irreducible] def rdl (s : Tx) (many : Int) : List Tx × Nat :=
  if many < 0 then ([], 3) else if 64 < many then ([], 2) else if (rds many.toNat s []).2 = 0 then rds many.toNat s [] else ([], (rds many.toNat s []).2)
theorem rdl_neg {s : Tx} {many : Int} (h : many < 0) : rdl s many = ([], 3) := by unfold rdl; rw [if_pos h]
theorem rdl_many {s : Tx} {many : Int} (h : 64 < many) : rdl s many = ([], 2) := by unfold rdl; rw [if_neg (by omega), if_pos h]
theorem rdl_in {s : Tx} {many : Nat} (h : many ≤ 64) : rdl s many = if (rds many s []).2 = 0 then rds many s [] else ([], (rds many s []).2) := by
  unfold rdl; rw [if_neg (by omega), if_neg (by omega), Int.toNat_natCast]
theorem rdl_bytes (l : List Tx) (h1 : l.length ≤ 64) (h2 : fitB l = true) : rdl (bytes l) l.length = (l, 0) := by
  rw [rdl_in h1, bytes_eq, rds_enc l [] ((fitB_iff l).1 h2) (by simp), if_pos rfl]
theorem rdl_only {s : Tx} {many : Int} {l : List Tx} (h : rdl s many = (l, 0)) : wrt l = (s, 0) ∧ (l.length : Int) = many ∧ l.length ≤ 64 := by
  by_cases h1 : many < 0
  · rw [rdl_neg h1] at h; simp at h
  · by_cases h2 : 64 < many
    · rw [rdl_many h2] at h; simp at h
    · obtain ⟨m, rfl⟩ := Int.eq_ofNat_of_zero_le (show 0 ≤ many by omega)
      rw [rdl_in (by omega)] at h
      split at h
      · obtain ⟨g1, g2, g3⟩ := rds_only m s [] l (by simp) h
        refine ⟨?_, by omega, by omega⟩
        rw [wrt_ok (by omega) ((fitB_iff l).2 g3), bytes_eq, ← g1]
      · simp only [Prod.mk.injEq] at h; omega
theorem rdl_err {s : Tx} {many : Int} (h : (rdl s many).2 ≠ 0) : (rdl s many).1 = [] := by
  by_cases h1 : many < 0
  · rw [rdl_neg h1]
  · by_cases h2 : 64 < many
    · rw [rdl_many h2]
    · obtain ⟨m, rfl⟩ := Int.eq_ofNat_of_zero_le (show 0 ≤ many by omega)
      rw [rdl_in (by omega)] at h ⊢
      split
      · rename_i h0; rw [if_pos h0] at h; exact absurd h0 h
      · rfl
/-! ### what texts share -/
theorem less_cons (a b : UInt8) (x y : Tx) : Op.bytesLess (a :: x) (b :: y) = (decide (a < b) || (a == b && Op.bytesLess x y)) := rfl
theorem one_len (last s : Tx) (h : s.length ≤ 16) : (one last s).length + shr last s = s.length + 2 := by
  have := shr_le last s
  have b1 := beh_le (shr last s) 0 (by omega) (by decide)
  have b2 := beh_le (s.length - shr last s) 0 (by omega) (by decide)
  have c1 : beh (shr last s) = 0 := by have := b1.2 (by omega); omega
  have c2 : beh (s.length - shr last s) = 0 := by have := b2.2 (by omega); omega
  unfold one
  rw [List.length_append, List.length_append, wr_len, wr_len, List.length_drop, c1, c2]; omega
end Hy.Front
end
section
namespace Hy.Dct
open Go
abbrev T := List UInt8
theorem le_lt {a b : T} (h : a ≤ b) (hn : a ≠ b) : a < b := by
  rcases Classical.em (b ≤ a) with h2 | h2
  · exact absurd (List.le_antisymm h h2) hn
  · exact List.not_le.1 h2
theorem lt_irr (a : T) : ¬ a < a := List.lt_irrefl a
theorem lt_tr {a b c : T} (h : a < b) (k : b < c) : a < c := List.lt_trans h k
theorem lt_asy {a b : T} (h : a < b) : ¬ b < a := fun k => lt_irr a (lt_tr h k)
def srt (l : List T) : List T := l.mergeSort (fun x y => decide (x ≤ y))
theorem srt_mem (l : List T) (x : T) : x ∈ srt l ↔ x ∈ l := List.mem_mergeSort
theorem srt_len (l : List T) : (srt l).length = l.length := List.length_mergeSort l
theorem srt_sorted (l : List T) : (srt l).Pairwise (· ≤ ·) := by
  have h := List.pairwise_mergeSort (le := fun x y : T => decide (x ≤ y)) (by
    intro a b c h1 h2
    exact decide_eq_true (List.le_trans (of_decide_eq_true h1) (of_decide_eq_true h2))) (by
    intro a b
    rcases List.le_total a b with h | h
    · simp [h]
    · simp [h]) l
  exact h.imp fun h => of_decide_eq_true h
@[irreducible] def bk (l : List T) : List T := Lib.compact (srt l)
theorem bk_eq (l : List T) : Lib.compact (srt l) = bk l := by unfold bk; rfl
theorem upto_spec (d : Array T) (hs : ∀ i j, i < j → j < d.size → d[i]! ≤ d[j]!) : ∀ m, m ≤ d.size → (Lib.compactUpTo d m).Pairwise (· < ·) ∧ (∀ x, x ∈ Lib.compactUpTo d m ↔ ∃ j, j < m ∧ d[j]! = x) := by
  intro m
  induction m with
  | zero => intro _; exact ⟨by simp [Lib.compactUpTo], fun x => by simp [Lib.compactUpTo]⟩
  | succ m ih =>
    intro hm
    obtain ⟨h1, h2⟩ := ih (by omega)
    rw [Lib.compactUpTo_succ]
    by_cases hk : Lib.keeps d m = true
    · rw [if_pos hk]
      have hlt : ∀ x ∈ Lib.compactUpTo d m, x < d[m]! := fun x hx => by
        obtain ⟨j, hj, rfl⟩ := (h2 x).1 hx
        have hm0 : m ≠ 0 := by omega
        have h3 : d[m - 1]! < d[m]! := by
          refine le_lt (hs _ _ (by omega) (by omega)) fun e => ?_
          unfold Lib.keeps at hk
          simp [hm0, e] at hk
        rcases Nat.lt_or_ge j (m - 1) with h | h
        · exact List.lt_of_le_of_lt (hs j (m - 1) h (by omega)) h3
        · rw [show j = m - 1 by omega]; exact h3
      refine ⟨List.pairwise_append.2 ⟨h1, List.pairwise_singleton _ _, fun a ha b hb => ?_⟩, fun x => ?_⟩
      · rw [List.mem_singleton] at hb; subst hb; exact hlt a ha
      · rw [List.mem_append, h2, List.mem_singleton]
        constructor
        · rintro (⟨j, hj, e⟩ | e)
          · exact ⟨j, by omega, e⟩
          · exact ⟨m, by omega, e.symm⟩
        · rintro ⟨j, hj, e⟩
          rcases Nat.lt_or_ge j m with h | h
          · exact .inl ⟨j, h, e⟩
          · exact .inr (by rw [← e, show j = m by omega])
    · rw [if_neg hk, List.append_nil]
      have hm0 : m ≠ 0 := fun e => hk (by subst e; simp [Lib.keeps])
      have he : d[m]! = d[m - 1]! := by
        unfold Lib.keeps at hk
        simp [hm0] at hk
        exact hk
      refine ⟨h1, fun x => ?_⟩
      rw [h2]
      constructor
      · rintro ⟨j, hj, e⟩; exact ⟨j, by omega, e⟩
      · rintro ⟨j, hj, e⟩
        rcases Nat.lt_or_ge j m with h | h
        · exact ⟨j, h, e⟩
        · exact ⟨m - 1, by omega, by rw [← e, show j = m by omega, he]⟩
theorem bk_spec (l : List T) : (bk l).Pairwise (· < ·) ∧ ∀ x, x ∈ bk l ↔ x ∈ l := by
  have hp := srt_sorted l
  have h := upto_spec (srt l).toArray (fun i j hij hj => by
    have hj' : j < (srt l).length := by simpa using hj
    have := List.pairwise_iff_getElem.1 hp i j (by omega) hj' hij
    rw [getElem!_pos _ i (by simp; omega), getElem!_pos _ j (by simpa using hj')]
    simpa using this) (srt l).length (by simp)
  rw [← bk_eq]
  refine ⟨h.1, fun x => ?_⟩
  show x ∈ Lib.compactUpTo (srt l).toArray (srt l).length ↔ _
  rw [h.2, ← srt_mem l x]
  constructor
  · rintro ⟨j, hj, rfl⟩
    rw [getElem!_pos _ j (by simpa using hj)]
    simp
  · intro hx
    obtain ⟨j, hj, rfl⟩ := List.mem_iff_getElem.1 hx
    exact ⟨j, hj, by rw [getElem!_pos _ j (by simpa using hj)]; simp⟩
theorem bk_len (l : List T) : (bk l).length ≤ l.length := by
  rw [← bk_eq, ← srt_len l]
  show ((List.filter _ (List.range _)).map _).length ≤ _
  rw [List.length_map]
  exact Nat.le_trans (List.length_filter_le _ _) (by simp)
@[irreducible] def plc (b : List T) (s : T) : Nat := b.countP fun x => decide (x < s)
theorem plc_eq (b : List T) (s : T) : plc b s = b.countP fun x => decide (x < s) := by unfold plc; rfl
theorem plc_le (b : List T) (s : T) : plc b s ≤ b.length := by rw [plc_eq]; exact List.countP_le_length
theorem plc_at {b : List T} (hb : b.Pairwise (· < ·)) {k : Nat} (hk : k < b.length) : plc b b[k] = k := by
  rw [plc_eq]
  induction b generalizing k with
  | nil => simp at hk
  | cons x b ih =>
    obtain ⟨h1, h2⟩ := List.pairwise_cons.1 hb
    cases k with
    | zero =>
      rw [List.countP_cons]
      have : b.countP (fun y => decide (y < x)) = 0 := List.countP_eq_zero.2 fun y hy => by
        have := lt_asy (h1 y hy); simpa using this
      simp [this, lt_irr x]
    | succ k =>
      have hk' : k < b.length := by simpa using hk
      have h3 := h1 b[k] (List.getElem_mem hk')
      rw [List.countP_cons]
      have := ih h2 hk'
      simp only [List.getElem_cons_succ]
      rw [this]
      simp [h3]
theorem plc_mem {b : List T} (hb : b.Pairwise (· < ·)) {s : T} (hs : s ∈ b) : b[plc b s]? = some s := by
  obtain ⟨k, hk, rfl⟩ := List.mem_iff_getElem.1 hs
  rw [plc_at hb hk, List.getElem?_eq_getElem hk]
theorem plc_lt {b : List T} (hb : b.Pairwise (· < ·)) {s : T} (hs : s ∈ b) : plc b s < b.length := (List.getElem?_eq_some_iff.1 (plc_mem hb hs)).1
def cds (l : List T) : List Nat := l.map (plc (bk l))
theorem cds_len (l : List T) : (cds l).length = l.length := by simp [cds]
theorem cds_lt (l : List T) : ∀ x ∈ cds l, x < (bk l).length := fun x hx => by
  obtain ⟨s, hs, rfl⟩ := List.mem_map.1 hx
  exact plc_lt (bk_spec l).1 (((bk_spec l).2 s).2 hs)
def mny (l : List T) : Bool := decide (64 < l.length) || l.any fun s => decide (16 < s.length)
theorem mny_false {l : List T} (h : mny l = false) : l.length ≤ 64 ∧ ∀ s ∈ l, s.length ≤ 16 := by
  unfold mny at h
  rw [Bool.or_eq_false_iff, decide_eq_false_iff_not, List.any_eq_false] at h
  exact ⟨by omega, fun s hs => by have := h.2 s hs; simp at this; omega⟩
def asc : List T → Bool
  | [] => true
  | [_] => true
  | x :: y :: r => decide (x < y) && asc (y :: r)
theorem asc_iff (b : List T) : asc b = true ↔ b.Pairwise (· < ·) := by
  induction b with
  | nil => simp [asc]
  | cons x b ih =>
    cases b with
    | nil => simp [asc]
    | cons y r =>
      rw [asc, Bool.and_eq_true, decide_eq_true_eq, ih, List.pairwise_cons (a := x)]
      constructor
      · rintro ⟨h1, h2⟩
        refine ⟨fun z hz => ?_, h2⟩
        rcases List.mem_cons.1 hz with rfl | hz
        · exact h1
        · exact lt_tr h1 ((List.pairwise_cons.1 h2).1 z hz)
      · rintro ⟨h1, h2⟩; exact ⟨h1 y (by simp), h2⟩
@[irreducible] def chk (b : List T) : Nat := if mny b = true then 2 else if asc b = true then 0 else 4
theorem chk_many {b : List T} (h : mny b = true) : chk b = 2 := by unfold chk; rw [if_pos h]
theorem chk_ok {b : List T} (h : mny b = false) (h2 : asc b = true) : chk b = 0 := by unfold chk; rw [if_neg (by simp [h]), if_pos h2]
theorem chk_state {b : List T} (h : mny b = false) (h2 : asc b = false) : chk b = 4 := by unfold chk; rw [if_neg (by simp [h]), if_neg (by simp [h2])]
theorem chk_cases (b : List T) : chk b = 0 ∨ chk b = 2 ∨ chk b = 4 := by unfold chk; (repeat' split) <;> simp
theorem asc_take (b : List T) (k : Nat) (hk : k + 1 < b.length) (h : asc (b.take (k + 1)) = true) : asc (b.take (k + 2)) = decide (b[k] < b[k + 1]) := by
  have h1 := (asc_iff _).1 h
  have e : b.take (k + 2) = b.take (k + 1) ++ [b[k + 1]] := by rw [List.take_succ_eq_append_getElem hk]
  by_cases hl : b[k] < b[k + 1]
  · rw [decide_eq_true hl, asc_iff, e]
    refine List.pairwise_append.2 ⟨h1, List.pairwise_singleton _ _, fun x hx y hy => ?_⟩
    rw [List.mem_singleton] at hy
    subst hy
    obtain ⟨j, hj, rfl⟩ := List.mem_iff_getElem.1 hx
    rw [List.length_take] at hj
    rw [List.getElem_take]
    rcases Nat.lt_or_ge j k with h3 | h3
    · have := List.pairwise_iff_getElem.1 h1 j k (by rw [List.length_take]; omega) (by rw [List.length_take]; omega) h3
      rw [List.getElem_take, List.getElem_take] at this
      exact lt_tr this hl
    · have : j = k := by omega
      subst this; exact hl
  · rw [decide_eq_false hl]
    cases hc : asc (b.take (k + 2)) with
    | false => rfl
    | true =>
      have h2 := (asc_iff _).1 hc
      have := List.pairwise_iff_getElem.1 h2 k (k + 1) (by rw [List.length_take]; omega) (by rw [List.length_take]; omega) (by omega)
      rw [List.getElem_take, List.getElem_take] at this
      exact absurd this hl
theorem asc_false_take (b : List T) (k : Nat) (h : asc (b.take k) = false) : asc b = false := by
  cases hc : asc b with
  | false => rfl
  | true =>
    have h1 := ((asc_iff b).1 hc).sublist (List.take_sublist k b)
    rw [(asc_iff _).2 h1] at h; cases h
@[irreducible] def txt (b : List T) (c : List Nat) : List T × Nat :=
  if chk b ≠ 0 then ([], chk b) else if 64 < c.length then ([], 2) else if c.all (fun x => decide (x < b.length)) = true then (c.map fun x => b.getD x [], 0) else ([], 3)
theorem txt_bad {b : List T} {c : List Nat} (h : chk b ≠ 0) : txt b c = ([], chk b) := by unfold txt; rw [if_pos h]
theorem txt_many {b : List T} {c : List Nat} (h : chk b = 0) (h2 : 64 < c.length) : txt b c = ([], 2) := by unfold txt; rw [if_neg (fun x => x h), if_pos h2]
theorem txt_range {b : List T} {c : List Nat} (h : chk b = 0) (h2 : ¬ 64 < c.length) {j : Nat} (hj : j < c.length) (h3 : b.length ≤ c[j]) : txt b c = ([], 3) := by
  unfold txt; rw [if_neg (fun x => x h), if_neg h2, if_neg]
  intro e
  have := of_decide_eq_true (List.all_eq_true.1 e c[j] (List.getElem_mem hj))
  omega
theorem txt_ok {b : List T} {c : List Nat} (h : chk b = 0) (h2 : ¬ 64 < c.length) (h3 : ∀ j (hj : j < c.length), c[j] < b.length) : txt b c = (c.map fun x => b.getD x [], 0) := by
  unfold txt; rw [if_neg (fun x => x h), if_neg h2, if_pos]
  refine List.all_eq_true.2 fun x hx => ?_
  obtain ⟨j, hj, rfl⟩ := List.mem_iff_getElem.1 hx
  exact decide_eq_true (h3 j hj)
theorem txt_back (l : List T) (h : mny l = false) : txt (bk l) (cds l) = (l, 0) := by
  obtain ⟨h1, h2⟩ := mny_false h
  obtain ⟨s1, s2⟩ := bk_spec l
  have hb : mny (bk l) = false := by
    unfold mny
    rw [Bool.or_eq_false_iff, decide_eq_false_iff_not, List.any_eq_false]
    exact ⟨by have := bk_len l; omega, fun s hs => by have := h2 s ((s2 s).1 hs); simp; omega⟩
  rw [txt_ok (chk_ok hb ((asc_iff _).2 s1)) (by rw [cds_len]; omega) (fun j hj => cds_lt l _ (List.getElem_mem hj))]
  unfold cds
  rw [List.map_map]
  congr 1
  conv => rhs; rw [← List.map_id l]
  refine List.map_congr_left fun s hs => ?_
  show (bk l).getD (plc (bk l) s) [] = s
  rw [List.getD_eq_getElem?_getD, plc_mem s1 ((s2 s).2 hs)]; rfl
end Hy.Dct
namespace Hy.Dct
def nubS (acc : List T) (x : T) : List T := if x ∈ acc then acc else acc ++ [x]
def nub (l : List T) : List T := l.foldl nubS []
theorem nub_snoc (l : List T) (x : T) : nub (l ++ [x]) = nubS (nub l) x := by simp [nub]
theorem nub_spec (l : List T) : (nub l).Nodup ∧ ∀ x, x ∈ nub l ↔ x ∈ l := by
  generalize hn : l.length = n
  induction n generalizing l with
  | zero => rw [List.length_eq_zero_iff.1 hn]; simp [nub]
  | succ n ih =>
    rcases List.eq_nil_or_concat l with rfl | ⟨l', x, rfl⟩
    · simp at hn
    · rw [List.concat_eq_append] at hn ⊢
      obtain ⟨h1, h2⟩ := ih l' (by simpa using hn)
      rw [nub_snoc]
      unfold nubS
      split
      · rename_i h
        refine ⟨h1, fun y => ?_⟩
        rw [h2, List.mem_append, List.mem_singleton]
        constructor
        · exact .inl
        · rintro (h3 | rfl)
          · exact h3
          · exact (h2 _).1 h
      · rename_i h
        refine ⟨List.nodup_append.2 ⟨h1, by simp, fun a ha b hb => ?_⟩, fun y => by rw [List.mem_append, List.mem_append, h2]⟩
        rw [List.mem_singleton] at hb
        subst hb
        intro e; subst e; exact h ha
theorem nub_plc (l : List T) (s : T) : (nub l).countP (fun x => decide (x < s)) = plc (bk l) s := by
  rw [plc_eq]
  obtain ⟨h1, h2⟩ := nub_spec l
  obtain ⟨h3, h4⟩ := bk_spec l
  have h5 : (bk l).Nodup := h3.imp fun h e => by subst e; exact lt_irr _ h
  exact (List.perm_ext_iff_of_nodup h1 h5 |>.2 fun a => by rw [h2, h4]).countP_eq _
def cntB (l : List T) (s : T) (m : Nat) : Nat := (nub (l.take m)).countP fun x => decide (x < s)
theorem cntB_step (l : List T) (s : T) (m : Nat) (hm : m < l.length) : cntB l s (m + 1) = if l[m] ∉ l.take m ∧ l[m] < s then cntB l s m + 1 else cntB l s m := by
  unfold cntB
  rw [List.take_succ_eq_append_getElem hm, nub_snoc]
  unfold nubS
  have h := (nub_spec (l.take m)).2 l[m]
  by_cases h1 : l[m] ∈ l.take m
  · rw [if_pos (h.2 h1), if_neg (fun x => x.1 h1)]
  · rw [if_neg (fun x => h1 (h.1 x)), List.countP_append]
    by_cases h2 : l[m] < s
    · rw [if_pos ⟨h1, h2⟩]; simp [h2]
    · rw [if_neg (fun x => h2 x.2)]; simp [h2]
theorem cntB_all (l : List T) (s : T) : cntB l s l.length = plc (bk l) s := by unfold cntB; rw [List.take_length, nub_plc]
theorem cntB_le (l : List T) (s : T) (m : Nat) : cntB l s m ≤ m := by
  induction m with
  | zero => simp [cntB, nub]
  | succ m ih =>
    by_cases hm : m < l.length
    · rw [cntB_step l s m hm]; split <;> omega
    · unfold cntB at *
      rw [List.take_of_length_le (by omega)] at *; omega
def mst : List Nat → Nat
  | [] => 0
  | x :: r => max (x + 1) (mst r)
theorem mst_snoc (l : List Nat) (x : Nat) : mst (l ++ [x]) = max (mst l) (x + 1) := by
  induction l with
  | nil => simp [mst]
  | cons y l ih => simp only [List.cons_append, mst, ih]; omega
theorem mst_ge (l : List Nat) : ∀ x ∈ l, x < mst l := by
  induction l with
  | nil => simp
  | cons y l ih =>
    intro x hx
    rcases List.mem_cons.1 hx with rfl | hx
    · simp only [mst]; omega
    · have := ih x hx; simp only [mst]; omega
theorem mst_le (l : List Nat) (n : Nat) (h : ∀ x ∈ l, x < n) : mst l ≤ n := by
  induction l with
  | nil => simp [mst]
  | cons y l ih =>
    have h1 := h y (by simp)
    have h2 := ih fun x hx => h x (by simp [hx])
    simp only [mst]; omega
theorem mst_cds (l : List T) : mst (cds l) = (bk l).length := by
  obtain ⟨s1, s2⟩ := bk_spec l
  refine Nat.le_antisymm (mst_le _ _ (cds_lt l)) ?_
  rcases Nat.eq_zero_or_pos (bk l).length with h | h
  · omega
  · have hk : (bk l).length - 1 < (bk l).length := by omega
    have hm : (bk l).length - 1 ∈ cds l := List.mem_map.2 ⟨(bk l)[(bk l).length - 1], (s2 _).1 (List.getElem_mem hk), plc_at s1 hk⟩
    have := mst_ge _ _ hm
    omega
theorem cds_has (l : List T) (n : Nat) (h : n < (bk l).length) : ∃ i, ∃ hi : i < l.length, plc (bk l) l[i] = n := by
  obtain ⟨s1, s2⟩ := bk_spec l
  obtain ⟨i, hi, e⟩ := List.mem_iff_getElem.1 ((s2 _).1 (List.getElem_mem h))
  exact ⟨i, hi, by rw [e, plc_at s1 h]⟩
theorem cds_text (l : List T) (n i : Nat) (hi : i < l.length) (h : plc (bk l) l[i] = n) : (bk l)[n]? = some l[i] := by
  obtain ⟨s1, s2⟩ := bk_spec l
  rw [← h]; exact plc_mem s1 ((s2 _).2 (List.getElem_mem hi))
end Hy.Dct
end
section
namespace Hy.Dct
open Go
theorem bless (a b : T) : Op.bytesLess a b = decide (a < b) := by
  induction a generalizing b with
  | nil => cases b <;> simp [Op.bytesLess]
  | cons x a ih =>
    cases b with
    | nil => simp [Op.bytesLess]
    | cons y b =>
      rw [Front.less_cons, ih]
      by_cases h : x = y
      · subst h; simp
      · simp [List.cons_lt_cons_iff, h]
theorem nless (a b : T) : numsLess (a.map UInt8.toNat) (b.map UInt8.toNat) = decide (a < b) := by
  induction a generalizing b with
  | nil => cases b <;> simp [numsLess]
  | cons x a ih =>
    cases b with
    | nil => simp [numsLess]
    | cons y b =>
      simp only [List.map_cons, numsLess, ih]
      by_cases h : x = y
      · subst h; simp
      · have h2 : ¬ x.toNat = y.toNat := fun e => h (UInt8.toNat.inj e)
        simp [List.cons_lt_cons_iff, h, h2, UInt8.lt_iff_toNat_lt]
theorem tless_eq (a b : T) : Cel.tless ⟨a.toArray⟩ ⟨b.toArray⟩ = decide (a < b) := nless a b
end Hy.Dct
end
end
section
namespace Go.Proofs.YthgnipangcmanaaGreat
open Go.RowKit Hy
theorem rowU8 : RowT Tryz.prog 42 5 1 1 := RowT.mk' (z := .int .u8 0) Tryz.underlying42 (by kernel_rfl) rfl (by decide)
theorem rowU64 : RowT Tryz.prog 58 34 1 8 := RowT.mk' (z := .int .u64 0) Tryz.underlying58 (by kernel_rfl) rfl (by decide)
end Go.Proofs.YthgnipangcmanaaGreat
end
section
namespace Hy
open Go Go.RowKit
theorem own_far {base : Nat} {e : TypeId} {size : Nat} {v : Value} {n : Nat} {xs : List Value} {w w' : World} {g : Nat} (h : w.ownsRow base e size v n xs) (hg : v.ownBlock ≠ some g) (hF : ∀ g' t' cs', g' ≠ g → Blk w g' t' cs' → Blk w' g' t' cs') : w'.ownsRow base e size v n xs := by
  refine ⟨h.1, ?_⟩
  rcases h.2 with h | ⟨g', cap, cur, hv, hb, hh, r⟩
  · exact .inl h
  · refine .inr ⟨g', cap, cur, hv, hb, hF g' e cur (fun e => hg (by rw [hv, e]; rfl)) hh, r⟩
theorem own_not {base : Nat} {e : TypeId} {size : Nat} {v : Value} {n : Nat} {xs : List Value} {w : World} {g : Nat} (h : w.ownsRow base e size v n xs) (hg : w.heap.size ≤ g) : v.ownBlock ≠ some g := fun e => by
  have := (h.lt g e).2; omega
theorem own_lower {w : World} {base base' : Nat} {e : TypeId} {size : Nat} {v : Value} {n : Nat} {xs : List Value} (h : w.ownsRow base e size v n xs) (hb : base' ≤ base) : w.ownsRow base' e size v n xs := by
  refine ⟨h.1, ?_⟩
  rcases h.2 with h | ⟨g, cap, cur, hv, hbg, r⟩
  · exact .inl h
  · exact .inr ⟨g, cap, cur, hv, Nat.le_trans hb hbg, r⟩
theorem own_base {w : World} {base : Nat} {e : TypeId} {size n : Nat} {v : Value} {xs : List Value} (h : w.ownsRow base e size v n xs) (hn : 0 < n) : ∃ g c, v = .slice (some ⟨g, 0, none⟩) n c ∧ base ≤ g ∧ g < w.heap.size ∧ ∃ cur, Blk w g e cur := by
  rcases h.2 with ⟨_, h⟩ | ⟨g, c, cur, hv, hb, hg, _⟩
  · omega
  · exact ⟨g, c, hv, hb, Blk.lt (cs := cur) hg, cur, hg⟩
end Hy
end
