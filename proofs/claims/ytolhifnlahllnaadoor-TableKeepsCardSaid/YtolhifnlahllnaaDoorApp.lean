/- append onto a slice of the call's own, from whatever source; a slice of bytes to a string. No program in sight. -/
import Derived.Test.YtolhifnlahllnaaDoorBase
import Derived.Deep.AppendSrc
import Derived.Deep.AppendLies
import Derived.Deep.DeepAppendWide
namespace Hy
open Go Go.RowKit

/-- a slice type t of element type e: its cells, its bytes -/
structure RowT (P : Program) (t e : TypeId) (size bytes : Nat) : Prop where
  ht : P.underlying t = some (.slice e)
  hi : ∃ i z, P.info? e = some i ∧ i.zero = some z ∧ i.size = size ∧ i.bytes = bytes ∧ z.cells.size = size
  pos : 0 < size
theorem RowT.mk' {P : Program} {t e : TypeId} {z : Value} {size bytes : Nat} (ht : P.underlying t = some (.slice e)) (hi : (P.info? e).map (fun i => (i.zero, i.size, i.bytes)) = some (some z, size, bytes)) (hz : z.cells.size = size) (pos : 0 < size) : RowT P t e size bytes := by
  obtain ⟨i0, h1, h2, h3, h4⟩ := info_parts hi
  exact ⟨ht, ⟨i0, z, h1, h2, h3, h4, hz⟩, pos⟩

section
variable {P : Program} {w : World}
theorem run_app {t tx ty e : TypeId} {size bytes base : Nat} (T : RowT P t e size bytes) (v : Value) (n : Nat) (xs : List Value) (hown : w.ownsRow base e size v n xs)
    (x : Value) (m : Nat) (news : List Value) (hs : Src P size tx x m news w) (h63 : n + m ≤ maxLen) (hbytes : (n + m + (n + m) / 4 + 192) * bytes ≤ 281474976710656) (hbase : base ≤ w.heap.size) :
    ∃ v' w', (Builtin.append_ #[t, tx] ty #[v, x]).run P w = .ok v' w' ∧ w'.ownsRow base e size v' (n + m) (xs ++ news) ∧ w.grownBy w' v.ownBlock ∧
      (v'.ownBlock = v.ownBlock ∨ v'.ownBlock = some w.heap.size) := by
  obtain ⟨ht, ⟨i, z, hi, hz, hsize, hby, hzs⟩, hsz⟩ := T
  subst hsize
  subst hby
  have hl := hs.newsLen
  have hsmall : n + m ≤ 9223372036854775807 := by simp only [maxLen] at h63; omega
  have hlen : (xs ++ news).length = (n + m) * i.size := by rw [List.length_append, hown.1, hl, Nat.add_mul]
  have grown : ∀ (old : Nat), old < n + m → ∀ (row : Option Nat),
      (w.drew.alloc (.cells ((xs ++ news).toArray ++ Builtin.zeroCells z.cells (grownCap w (n + m) old e - (n + m))) e)).ownsRow base e i.size
        (.slice (some ⟨w.heap.size, 0, none⟩) (n + m) (grownCap w (n + m) old e)) (n + m) (xs ++ news) ∧
      w.grownBy (w.drew.alloc (.cells ((xs ++ news).toArray ++ Builtin.zeroCells z.cells (grownCap w (n + m) old e - (n + m))) e)) row := by
    intro old ho row
    have hge := grownCap_ge w (n + m) old e
    have hcm : grownCap w (n + m) old e ≤ maxLen := grownCap_le_maxLen w (n + m) old e h63
    refine ⟨⟨hlen, .inr ⟨w.heap.size, _, _, rfl, hbase, heap_alloc_new w.drew _, hge, hcm, ?_, ?_⟩⟩, ⟨rfl, rfl, rfl, by simp, fun k hk _ => Below.heap_alloc w.drew _ k hk⟩⟩
    · rw [Array.size_append, List.size_toArray, size_zeroCells, hzs, hlen, ← Nat.add_mul]
      congr 1
      omega
    · simp only [Array.toList_append]
      rw [← hlen]
      exact List.take_left
  rcases hown.2 with ⟨rfl, rfl⟩ | ⟨g, cap, cur, rfl, hbg, hg, hnc, hcm, hcs, htake⟩
  · have hx : xs = [] := List.eq_nil_of_length_eq_zero (by simpa using hown.1)
    subst hx
    by_cases hm : m = 0
    · subst hm
      have hn : news = [] := List.eq_nil_of_length_eq_zero (by simpa using hl)
      subst hn
      refine ⟨.slice none 0 0, w, ?_, World.ownsRow_nil w base e i.size, ⟨rfl, rfl, rfl, Nat.le_refl _, fun _ _ _ => rfl⟩, Or.inl rfl⟩
      rcases hs.kind with ⟨e', hk⟩ | hk <;> simp [Builtin.append_, run_underlying ht, run_underlying hk, Go.sizeOf, typeInfo, hi, hs.len, hs.cells]
    · have hr := run_append_grow_src (P := P) w t tx ty e i z ht hi hz none 0 0 [] (run_firstCells_none w.drew i.size 0 0 0) x m news hs (by omega) (by omega) (growslice_fits_wide (by omega) hbytes)
      have hgr := grown 0 (by omega) (Value.ownBlock (.slice none 0 0))
      exact ⟨_, _, hr, hgr.1, hgr.2, Or.inr rfl⟩
  · by_cases hroom : n + m ≤ cap
    · have hfit : n * i.size + news.length ≤ cur.size := by rw [hl, hcs, ← Nat.add_mul]; exact Nat.mul_le_mul_right _ hroom
      have hst := run_storeCells_at P g (n * i.size) e news 0 cur w hg (by simpa using hfit) hs.one
      simp only [Nat.add_zero] at hst
      have hr : (Builtin.append_ #[t, tx] ty #[.slice (some ⟨g, 0, none⟩) n cap, x]).run P w =
          .ok (.slice (some ⟨g, 0, none⟩) (n + m) cap) (w.setRow g (cur.toList.take (n * i.size) ++ news ++ cur.toList.drop (n * i.size + news.length)).toArray) := by
        rcases hs.kind with ⟨e', hk⟩ | hk <;> simp [Builtin.append_, run_underlying ht, run_underlying hk, Go.sizeOf, typeInfo, hi, hs.len, hroom, hs.cells, Addr.add_lit, hst]
      refine ⟨_, _, hr, ⟨hlen, .inr ⟨g, cap, _, rfl, hbg, setRow_heap w g cur _ e _ hg, hroom, hcm, ?_, ?_⟩⟩, ⟨rfl, rfl, rfl, by simp, fun k _ hk => setRow_other w g k _ (fun e => hk (by simp [Value.ownBlock, e]))⟩, Or.inl rfl⟩
      · simp only [List.size_toArray, List.length_append, List.length_take, List.length_drop, Array.length_toList]
        omega
      · rw [htake, ← hlen]
        exact List.take_left
    · have holds : ∀ j u, xs[j]? = some u → w.cell? ((⟨g, 0, none⟩ : Addr).add j) = some u := hown.cells (g := g) rfl
      have hr := run_append_grow_src (P := P) w t tx ty e i z ht hi hz (some ⟨g, 0, none⟩) n cap xs (run_firstCells_some w.drew i.size n ⟨g, 0, none⟩ n cap xs hown.1 (by simpa using holds)) x m news hs (by omega) (by omega) (growslice_fits_wide (by omega) hbytes)
      have hgr := grown cap (by omega) (Value.ownBlock (.slice (some ⟨g, 0, none⟩) n cap))
      exact ⟨_, _, hr, hgr.1, hgr.2, Or.inr rfl⟩

theorem grown_below {base : Nat} {e : TypeId} {size : Nat} {v : Value} {n : Nat} {xs : List Value} {w' : World} (hown : w.ownsRow base e size v n xs) (hg : w.grownBy w' v.ownBlock) (hbase : base ≤ w.heap.size) : Below base w w' :=
  (Below.refl base w).grown hg hbase fun k hk => (hown.lt k hk).1

/-- at the operation -/
theorem wp_app {o : Oper} {a : Act} {K : Act → World → Prop} {Q : Exit → Act → World → Prop} (s x : Operand) {t tx e : TypeId} {size bytes base : Nat} (T : RowT P t e size bytes)
    (ho : o.op = .call { callee := .builtin .append, args := #[s, x], argTypes := #[t, tx] })
    (v : Value) (n : Nat) (xs : List Value) (hs : a.eval s = v) (hown : w.ownsRow base e size v n xs) (xv : Value) (m : Nat) (news : List Value) (hx : a.eval x = xv) (hsrc : Src P size tx xv m news w)
    (h63 : n + m ≤ maxLen) (hbytes : (n + m + (n + m) / 4 + 192) * bytes ≤ 281474976710656) (hbase : base ≤ w.heap.size)
    (h : ∀ v' w', w'.ownsRow base e size v' (n + m) (xs ++ news) → w.grownBy w' v.ownBlock → (v'.ownBlock = v.ownBlock ∨ v'.ownBlock = some w.heap.size) → Below base w w' → K (a.put o.dst v') w') : o.wp P a w K Q := by
  obtain ⟨v', w', hr, h2, h3, h4⟩ := run_app (ty := o.type) T v n xs hown xv m news hsrc h63 hbytes hbase
  unfold Oper.wp execOp
  simp only [ho, resolve, invoke, builtin, Sem.run_bind, Sem.run_pure, Result.andThen_ok, List.map_toArray, List.map_cons, List.map_nil, hs, hx, hr]
  exact h v' w' h2 h3 h4 (grown_below hown h3 hbase)
theorem wpList_app {ops : Array Oper} {rest : List Oper} {o : Oper} {a : Act} {Q : Exit → Act → World → Prop} (hgd : o.guard = none) (s x : Operand) {t tx e : TypeId} {size bytes base : Nat} (T : RowT P t e size bytes)
    (ho : o.op = .call { callee := .builtin .append, args := #[s, x], argTypes := #[t, tx] })
    (v : Value) (n : Nat) (xs : List Value) (hs : a.eval s = v) (hown : w.ownsRow base e size v n xs) (xv : Value) (m : Nat) (news : List Value) (hx : a.eval x = xv) (hsrc : Src P size tx xv m news w)
    (h63 : n + m ≤ maxLen) (hbytes : (n + m + (n + m) / 4 + 192) * bytes ≤ 281474976710656) (hbase : base ≤ w.heap.size)
    (h : ∀ v' w', w'.ownsRow base e size v' (n + m) (xs ++ news) → w.grownBy w' v.ownBlock → (v'.ownBlock = v.ownBlock ∨ v'.ownBlock = some w.heap.size) → Below base w w' → wpList P ops Q rest (a.put o.dst v') w') : wpList P ops Q (o :: rest) a w :=
  wpList_plain hgd fun _ hK => wp_app s x T ho v n xs hs hown xv m news hx hsrc h63 hbytes hbase fun v' w' h2 h3 h4 h5 => hK _ _ (h v' w' h2 h3 h4 h5)
/-- at a step of a region that draws its order -/
theorem step_app {ops : Array Oper} {o : Oper} {a : Act} {K : Act → World → Prop} {Q : Exit → Act → World → Prop} {E : Prop} (hw : Region.wanted o (yielded ops a.tmps) = true) (s x : Operand) {t tx e : TypeId} {size bytes base : Nat} (T : RowT P t e size bytes)
    (ho : o.op = .call { callee := .builtin .append, args := #[s, x], argTypes := #[t, tx] })
    (v : Value) (n : Nat) (xs : List Value) (hs : a.eval s = v) (hown : w.ownsRow base e size v n xs) (xv : Value) (m : Nat) (news : List Value) (hx : a.eval x = xv) (hsrc : Src P size tx xv m news w)
    (h63 : n + m ≤ maxLen) (hbytes : (n + m + (n + m) / 4 + 192) * bytes ≤ 281474976710656) (hbase : base ≤ w.heap.size)
    (h : ∀ v' w', w'.ownsRow base e size v' (n + m) (xs ++ news) → w.grownBy w' v.ownBlock → (v'.ownBlock = v.ownBlock ∨ v'.ownBlock = some w.heap.size) → Below base w w' → K (a.put o.dst v') w') :
    if Region.wanted o (yielded ops a.tmps) = true then Oper.wp P o a w K Q else E := by
  rw [if_pos hw]
  exact wp_app s x T ho v n xs hs hown xv m news hx hsrc h63 hbytes hbase h

theorem own_new {e : TypeId} {size base n : Nat} {C : Array Value} {g : Nat} (hg : g = w.heap.size) (hC : C.size = n * size) (hb : base ≤ w.heap.size) (hn : n ≤ maxLen) :
    (w.alloc (.cells C e)).ownsRow base e size (.slice (some ⟨g, 0, none⟩) n n) n C.toList := by
  subst hg
  refine ⟨by simpa using hC, .inr ⟨w.heap.size, n, C, rfl, hb, by unfold World.alloc; simp, Nat.le_refl _, hn, hC, ?_⟩⟩
  rw [← hC]; exact List.take_of_length_le (by simp)
/-- 'x[:h]', x an array -/
theorem run_arr_h {t e : TypeId} {n : Nat} (hu : P.underlying t = some (.array n e)) (hi : (P.info? e).isSome = true) (g : Nat) (k : IntKind) (h : Nat) (hh : h ≤ n) :
    (Instr.sliceAt t (.pointer (some ⟨g, 0, none⟩)) none (some (.int k (h : Int))) none).run P w = .ok (.slice (some ⟨g, 0, none⟩) h n) w := by
  obtain ⟨i, hi⟩ := Option.isSome_iff_exists.1 hi
  have hl : P.arrayLen t = n := by unfold Program.arrayLen; rw [hu]
  have he : P.elem t = e := by unfold Program.elem; rw [hu]
  have h0 := run_sliceAt_array_h (P := P) w t ⟨g, 0, none⟩ (by rw [hl, he]; exact hu) k (h : Int) (by omega) (by rw [hl]; omega)
  rw [h0, hl, he]
  simp [Go.sizeOf, typeInfo, hi, slicedAt, add_none]
theorem str_cons (a : UInt8) (l : List UInt8) : (⟨#[a]⟩ : ByteArray) ++ ⟨l.toArray⟩ = ⟨(a :: l).toArray⟩ := by
  apply ByteArray.ext; simp
theorem str_app (l m : List UInt8) : (⟨l.toArray⟩ : ByteArray) ++ ⟨m.toArray⟩ = ⟨(l ++ m).toArray⟩ := by
  apply ByteArray.ext; simp
theorem str_size (l : List UInt8) : (⟨l.toArray⟩ : ByteArray).size = l.length := by simp [ByteArray.size]
theorem str_self (s : ByteArray) : (⟨s.data.toList.toArray⟩ : ByteArray) = s := by simp
/-! ### strings, by their lists -/
theorem run_ix {t : TypeId} (hu : P.underlying t = some .string) (s : ByteArray) (k : IntKind) (i : Nat) (c : UInt8) (hc : s.data.toList[i]? = some c) :
    (Instr.index t (.string s) (.int k (i : Int))).run P w = .ok (.int .u8 c.toNat) w := by
  obtain ⟨h, hb⟩ := List.getElem?_eq_some_iff.1 hc
  have h' : i < s.size := by rw [Array.length_toList] at h; exact h
  rw [run_index_string w t s k i hu, dif_pos (by omega)]
  subst hb
  rfl
theorem run_ix0 {t : TypeId} (hu : P.underlying t = some .string) (s : ByteArray) (k : IntKind) (c : UInt8) (l : List UInt8) (hc : s.data.toList = c :: l) :
    (Instr.index t (.string s) (.int k 0)).run P w = .ok (.int .u8 c.toNat) w := run_ix hu s k 0 c (by rw [hc]; rfl)
theorem run_from {t : TypeId} (hu : P.underlying t = some .string) (s : ByteArray) (k : IntKind) (i : Nat) (h : i ≤ s.size) :
    (Instr.slice t (.string s) (some (.int k (i : Int))) none none).run P w = .ok (.string ⟨(s.data.toList.drop i).toArray⟩) w := by
  rw [run_slice_string_from_if w t s k i hu, if_pos (by omega)]
  congr 2
  apply ByteArray.ext; apply Array.ext'; rw [ext_tail]; rfl
theorem run_to {t : TypeId} (hu : P.underlying t = some .string) (s : ByteArray) (k : IntKind) (j : Nat) (h : j ≤ s.size) :
    (Instr.slice t (.string s) none (some (.int k (j : Int))) none).run P w = .ok (.string ⟨(s.data.toList.take j).toArray⟩) w := by
  rw [run_slice_string_to_if w t s k j hu, if_pos (by omega)]
  congr 2
  apply ByteArray.ext; apply Array.ext'; rw [Int.toNat_natCast, ext_head]
theorem run_fromto {t : TypeId} (hu : P.underlying t = some .string) (s : ByteArray) (k k' : IntKind) (i j : Nat) (hi : i ≤ j) (h : j ≤ s.size) :
    (Instr.slice t (.string s) (some (.int k (i : Int))) (some (.int k' (j : Int))) none).run P w = .ok (.string ⟨((s.data.toList.drop i).take (j - i)).toArray⟩) w := by
  rw [run_slice_string_if w t s k k' i j hu, if_pos (by omega), if_pos (by omega)]
  congr 2
  apply ByteArray.ext; apply Array.ext'; rw [Int.toNat_natCast, Int.toNat_natCast, ext_list]
theorem xor_all : ∀ c : Fin 256, bits BinOp.xor IntKind.u8 IntKind.u8.max (c.val : Int) = 255 - (c.val : Int) := by decide +kernel
theorem xor_u8 (c : UInt8) : bits BinOp.xor IntKind.u8 IntKind.u8.max (c.toNat : Int) = 255 - (c.toNat : Int) := xor_all ⟨c.toNat, c.toNat_lt⟩
theorem or_byte (x b : Nat) (hx : x ≤ 72057594037927935) (hb : b < 256) : bits .or .u64 ((x : Int) * 256) (b : Int) = ((x * 256 + b : Nat) : Int) := by
  have h1 : (BitVec.ofInt 64 ((x : Int) * 256)).toNat = x * 256 := by
    rw [show ((x : Int) * 256) = ((x * 256 : Nat) : Int) from by simp, BitVec.ofInt_natCast, BitVec.toNat_ofNat]
    exact Nat.mod_eq_of_lt (by omega)
  have h2 : (BitVec.ofInt 64 (b : Int)).toNat = b := by
    rw [BitVec.ofInt_natCast, BitVec.toNat_ofNat]; exact Nat.mod_eq_of_lt (by omega)
  have h3 : x * 256 ||| b = x * 256 + b := by
    have := Nat.two_pow_add_eq_or_of_lt (i := 8) (b := b) hb x
    rw [Nat.mul_comm x 256]; exact this.symm
  show IntKind.u64.wrap ((BitVec.ofInt 64 ((x : Int) * 256) ||| BitVec.ofInt 64 (b : Int)).toNat : Int) = _
  rw [BitVec.toNat_or, h1, h2, h3]
  show ((x * 256 + b : Nat) : Int) % 18446744073709551616 = _
  omega
theorem ofNat_mod (m : Nat) : UInt8.ofNat (m % 256) = UInt8.ofNat m := by
  apply UInt8.toNat.inj; rw [UInt8.toNat_ofNat', UInt8.toNat_ofNat']; omega
/-- numbers as cells -/
def u64s (l : List Nat) : List Value := l.map fun n : Nat => Value.int .u64 (n : Int)
theorem u64s_len (l : List Nat) : (u64s l).length = l.length := by simp [u64s]
theorem u64s_one (l : List Nat) : ∀ u ∈ u64s l, u.oneCell' = true := fun u hu => by
  obtain ⟨_, _, rfl⟩ := List.mem_map.1 hu; rfl
theorem u64s_app (l m : List Nat) : u64s (l ++ m) = u64s l ++ u64s m := by simp [u64s]
theorem u64s_take (l : List Nat) (k : Nat) : (u64s l).take k = u64s (l.take k) := by simp [u64s]
theorem u64s_get (l : List Nat) (k : Nat) (h : k < l.length) : (u64s l)[k]? = some (.int .u64 ((l[k] : Nat) : Int)) := by simp [u64s, h]
/-- where the cells of a list of numbers lie -/
theorem Rd.nums {w : World} {A : Option Addr} {l : List Nat} (h : Rd w A (u64s l)) (k : Nat) (hk : k < l.length) :
    ∃ b o, A = some ⟨b, o, none⟩ ∧ b < w.heap.size ∧ ∀ j (hj : j < l.length), w.cell? ⟨b, o + j, none⟩ = some (.int .u64 ((l[j] : Nat) : Int)) := by
  obtain ⟨b, o, e, hb, hc⟩ := h (by rw [u64s_len]; omega)
  exact ⟨b, o, e, hb, fun j hj => hc j _ (u64s_get l j hj)⟩
/-- bytes as cells -/
def u8s (l : List UInt8) : List Value := l.map fun u => Value.int .u8 u.toNat
theorem u8s_len (l : List UInt8) : (u8s l).length = l.length := by simp [u8s]
theorem u8s_one (l : List UInt8) : ∀ u ∈ u8s l, u.oneCell' = true := fun u hu => by
  obtain ⟨_, _, rfl⟩ := List.mem_map.1 hu; rfl
theorem u8s_app (l m : List UInt8) : u8s (l ++ m) = u8s l ++ u8s m := by simp [u8s]
theorem u8s_set (l : List UInt8) (i z : Nat) (hz : z < 256) : (u8s l).set i (.int .u8 (z : Int)) = u8s (l.set i (UInt8.ofNat z)) := by
  unfold u8s
  rw [List.map_set, UInt8.toNat_ofNat', Nat.mod_eq_of_lt hz]
theorem u8s_string (s : ByteArray) : byteCells s = u8s s.data.toList := rfl
theorem Src.ofList {tx : TypeId} (hk : P.underlying tx = some .string) (l : List UInt8) : Src P 1 tx (.string ⟨l.toArray⟩) l.length (u8s l) w := by
  have h := Src.ofString (P := P) (w := w) hk ⟨l.toArray⟩
  rw [str_size, u8s_string] at h
  exact h
theorem own_ext {base : Nat} {e : TypeId} {size : Nat} {v : Value} {n : Nat} {xs : List Value} {w' : World} (h : w.ownsRow base e size v n xs) (hx : Ext w w') : w'.ownsRow base e size v n xs := by
  refine ⟨h.1, ?_⟩
  rcases h.2 with h | ⟨g, cap, cur, hv, hb, hg, r⟩
  · exact .inl h
  · refine .inr ⟨g, cap, cur, hv, hb, ?_, r⟩
    have hlt : g < w.heap.size := by
      rcases Nat.lt_or_ge g w.heap.size with hlt | hge
      · exact hlt
      · rw [Array.getElem?_eq_none hge] at hg; cases hg
    rw [hx.block g hlt]; exact hg
theorem Src.rd {size : Nat} {tx e' : TypeId} (hk : P.underlying tx = some (.slice e')) (A : Option Addr) (n c : Nat) (news : List Value) (hl : news.length = n * size) (hr : Rd w A news)
    (h1 : ∀ u ∈ news, u.oneCell' = true) (hA : A = none → n = 0) : Src P size tx (.slice A n c) n news w := by
  cases A with
  | none =>
    obtain rfl := hA rfl
    obtain rfl : news = [] := List.eq_nil_of_length_eq_zero (by simpa using hl)
    exact Src.ofNil w hk c
  | some a =>
    refine Src.ofSlice w hk a n c news hl (fun j u hu => ?_) h1
    have hj : 0 < news.length := by
      rcases Nat.eq_zero_or_pos news.length with h0 | h0
      · rw [List.eq_nil_of_length_eq_zero h0] at hu; simp at hu
      · exact h0
    obtain ⟨b, o, e, _, hc⟩ := hr hj
    cases e
    rw [add_none]; exact hc j u hu
/-- what is owned is read -/
theorem Rd.owned {base : Nat} {e : TypeId} {size : Nat} {v : Value} {n : Nat} {xs : List Value} (hown : w.ownsRow base e size v n xs) :
    ∃ A cap, v = .slice A n cap ∧ Rd w A xs ∧ (A = none → n = 0) ∧ n ≤ cap ∧ cap ≤ maxLen := by
  rcases hown.2 with ⟨rfl, rfl⟩ | ⟨g, cap, cur, rfl, hbg, hg, hnc, hcm, hcs, htake⟩
  · refine ⟨none, 0, rfl, fun h => ?_, fun _ => rfl, Nat.le_refl _, Nat.zero_le _⟩
    have := hown.1; simp at this; subst this; simp at h
  · refine ⟨some ⟨g, 0, none⟩, cap, rfl, fun _ => ⟨g, 0, rfl, ?_, fun j u hu => ?_⟩, fun h => (by cases h), hnc, hcm⟩
    · rcases Nat.lt_or_ge g w.heap.size with hlt | hge
      · exact hlt
      · rw [Array.getElem?_eq_none hge] at hg; cases hg
    · have := hown.cells (g := g) rfl j u hu
      rw [add_none] at this; exact this
theorem run_str_rd {src dst e : TypeId} (hs : P.underlying src = some (.slice e)) (he : P.underlying e = some (.int .u8)) (hd : P.underlying dst = some .string)
    (A : Option Addr) (n cap : Nat) (l : List UInt8) (hl : l.length = n) (hr : Rd w A (u8s l)) (hA : A = none → n = 0) :
    (convert src dst (.slice A n cap)).run P w = .ok (.string ⟨l.toArray⟩) w := by
  cases A with
  | none =>
    obtain rfl := hA rfl
    obtain rfl := List.eq_nil_of_length_eq_zero hl
    rw [run_convert_bytes_string w src dst e _ _ _ hs he hd]
    simp [Conv.bytesToString]
    rfl
  | some a =>
    rcases Nat.eq_zero_or_pos n with h0 | h0
    · subst h0
      obtain rfl := List.eq_nil_of_length_eq_zero hl
      rw [run_convert_bytes_string w src dst e _ _ _ hs he hd]
      simp [Conv.bytesToString, loadCells, loadCellsFrom]
      rfl
    · obtain ⟨b, o, e', _, hc⟩ := hr (by rw [u8s_len, hl]; exact h0)
      cases e'
      exact run_str hs he hd b o n cap l hl (fun j u hu => hc j _ (by simp [u8s, hu]))
theorem run_str_own {src dst e : TypeId} (hs : P.underlying src = some (.slice e)) (he : P.underlying e = some (.int .u8)) (hd : P.underlying dst = some .string)
    {base n : Nat} {v : Value} {l : List UInt8} (hown : w.ownsRow base e 1 v n (u8s l)) : (convert src dst v).run P w = .ok (.string ⟨l.toArray⟩) w := by
  obtain ⟨A, cap, rfl, hr, hA, _⟩ := Rd.owned hown
  exact run_str_rd hs he hd A n cap l (by have := hown.1; rw [u8s_len] at this; omega) hr hA
/-- a list of numbers in new memory, and an error -/
def NumsOut (l : List Nat) (err : Nat) (w : World) (e : Ending) (w' : World) : Prop := ∃ A cap, e = .returned (.tuple #[.slice A l.length cap, .int .i64 err]) ∧ Rd w' A (u64s l) ∧ Ext w w'
end
end Hy
