/- Texts of this claim, put together: walks and plain laws. -/
import Derived.Test.YthgnipangcmanaaGreatZG1
import Derived.Test.YthgnipangcmanaaGreatZB1
import Derived.Test.YthgnipangcmanaaGreatZV1
import Derived.Test.YthgnipangcmanaaGreatZX1
import Derived.Laws.MakeOwn
import Derived.Laws.CopyOwn
section
namespace Hy.Hyb
open Go
def same (x : Nat) : List Nat → Nat
  | [] => 0
  | y :: l => if y = x then same x l + 1 else 0
def row : List Nat → Nat
  | [] => 0
  | x :: l => same x l + 1
theorem same_le (x : Nat) : ∀ l : List Nat, same x l ≤ l.length
  | [] => Nat.le_refl _
  | y :: l => by
    have := same_le x l
    unfold same
    split
    · simp only [List.length_cons]; omega
    · simp
theorem row_le (l : List Nat) : row l ≤ l.length := by
  cases l with
  | nil => exact Nat.le_refl _
  | cons x l => have := same_le x l; simp only [row, List.length_cons]; omega
theorem row_pos (x : Nat) (l : List Nat) : 1 ≤ row (x :: l) := by simp [row]
theorem same_take (x : Nat) : ∀ l : List Nat, l.take (same x l) = List.replicate (same x l) x
  | [] => rfl
  | y :: l => by
    unfold same
    split
    · rename_i h; rw [List.take_succ_cons, List.replicate_succ, same_take x l, h]
    · rfl
theorem row_take (x : Nat) (l : List Nat) : (x :: l).take (row (x :: l)) = List.replicate (row (x :: l)) x := by
  show (x :: l).take (same x l + 1) = List.replicate (same x l + 1) x
  rw [List.take_succ_cons, List.replicate_succ, same_take]
theorem same_add (x : Nat) : ∀ (l : List Nat) (k : Nat), k ≤ l.length → (∀ j (h : j < l.length), j < k → l[j] = x) → same x l = k + same x (l.drop k)
  | l, 0, _, _ => by simp
  | [], k + 1, h, _ => by simp at h
  | y :: l, k + 1, h, hall => by
    have h0 : y = x := hall 0 (by simp) (by omega)
    have ih := same_add x l k (by simpa using h) (fun j hj hk => by have := hall (j + 1) (by simpa using hj) (by omega); simpa using this)
    rw [same, if_pos h0, ih, List.drop_succ_cons]; omega
theorem same_stop (x : Nat) (l : List Nat) (k : Nat) (hk : k < l.length) (hall : ∀ j (h : j < l.length), j < k → l[j] = x) (hne : l[k] ≠ x) : same x l = k := by
  rw [same_add x l k (by omega) hall, List.drop_eq_getElem_cons hk, same, if_neg hne]; omega
theorem same_end (x : Nat) (l : List Nat) (hall : ∀ j (h : j < l.length), l[j] = x) : same x l = l.length := by
  rw [same_add x l l.length (Nat.le_refl _) (fun j h _ => hall j h), List.drop_length]; rfl
theorem row_stop (l : List Nat) (k x y : Nat) (h1 : 1 ≤ k) (hall : ∀ j, j < k → l[j]? = l[0]?) (hx : l[k]? = some x) (hy : l[0]? = some y) (hne : x ≠ y) : row l = k := by
  obtain ⟨hk, rfl⟩ := List.getElem?_eq_some_iff.1 hx
  obtain ⟨h0, rfl⟩ := List.getElem?_eq_some_iff.1 hy
  cases l with
  | nil => simp at hk
  | cons x l =>
    obtain ⟨k, rfl⟩ : ∃ j, k = j + 1 := ⟨k - 1, by omega⟩
    have := same_stop x l k (by simpa using hk) (fun j h hj => by have := hall (j + 1) (by omega); simpa [h] using this) (by simpa using hne)
    simp only [row, this]
theorem row_end (l : List Nat) (h0 : 0 < l.length) (hall : ∀ j, j < l.length → l[j]? = l[0]?) : row l = l.length := by
  cases l with
  | nil => simp at h0
  | cons x l =>
    have := same_end x l (fun j h => by have := hall (j + 1) (by simpa using h); simpa [h] using this)
    simp only [row, this, List.length_cons]
def pad (l : List Nat) : List Nat := l ++ List.replicate ((l.length + 7) / 8 * 8 - l.length) 0
theorem pad_len (l : List Nat) : (pad l).length = (l.length + 7) / 8 * 8 := by
  simp only [pad, List.length_append, List.length_replicate]; omega
theorem pad_full (l : List Nat) (h : l.length % 8 = 0) : pad l = l := by
  unfold pad; rw [show (l.length + 7) / 8 * 8 - l.length = 0 by omega]; simp
theorem pad_lt (l : List Nat) (k : Nat) (h : ∀ x ∈ l, x < 2 ^ k) : ∀ x ∈ pad l, x < 2 ^ k := by
  intro x hx
  rcases List.mem_append.1 hx with h1 | h1
  · exact h x h1
  · rw [List.eq_of_mem_replicate h1]; exact Nat.two_pow_pos k
inductive Part
  | run (x many : Nat)
  | blk (l : List Nat)
def bytes (w : Nat) : Part → List UInt8
  | .run x many => Vary.wr (2 * many) ++ Bits.packed [x] w
  | .blk l => Vary.wr (2 * (pad l).length / 8 + 1) ++ Bits.packed (pad l) w
def shut (o : List Nat) : List Part := if o = [] then [] else [.blk o]
theorem shut_nil : shut [] = [] := rfl
theorem shut_of (o : List Nat) (h : o ≠ []) : shut o = [.blk o] := by unfold shut; rw [if_neg h]
def partsF : Nat → List Nat → List Nat → List Part
  | 0, o, _ => shut o
  | f + 1, o, l => if l = [] then shut o else if 8 ≤ row l then shut o ++ .run (l.headD 0) (row l) :: partsF f [] (l.drop (row l)) else partsF f (o ++ l.take 8) (l.drop 8)
@[irreducible] def parts (o l : List Nat) : List Part := partsF l.length o l
theorem partsF_fuel : ∀ (f : Nat) (o l : List Nat), l.length ≤ f → partsF f o l = partsF l.length o l
  | 0, o, l, h => by
    obtain rfl : l = [] := List.length_eq_zero_iff.1 (by omega)
    rfl
  | f + 1, o, l, h => by
    by_cases hl : l = []
    · subst hl; rfl
    · obtain ⟨g, hg⟩ : ∃ g, l.length = g + 1 := ⟨l.length - 1, by have := List.length_pos_iff.2 hl; omega⟩
      rw [hg, partsF, partsF, if_neg hl, if_neg hl]
      by_cases h8 : 8 ≤ row l
      · have h1 : (l.drop (row l)).length ≤ g := by rw [List.length_drop]; omega
        rw [if_pos h8, if_pos h8, partsF_fuel f _ _ (by omega), partsF_fuel g _ _ h1]
      · have h1 : (l.drop 8).length ≤ g := by rw [List.length_drop]; omega
        rw [if_neg h8, if_neg h8, partsF_fuel f _ _ (by omega), partsF_fuel g _ _ h1]
theorem parts_nil (o : List Nat) : parts o [] = shut o := by unfold parts; rfl
theorem parts_run (o : List Nat) (x : Nat) (l : List Nat) (h : 8 ≤ row (x :: l)) : parts o (x :: l) = shut o ++ .run x (row (x :: l)) :: parts [] ((x :: l).drop (row (x :: l))) := by
  have h1 : ((x :: l).drop (row (x :: l))).length ≤ l.length := by rw [List.length_drop, List.length_cons]; have := row_pos x l; omega
  unfold parts
  rw [List.length_cons, partsF, if_neg (by simp), if_pos h, partsF_fuel l.length _ _ h1]; rfl
theorem parts_blk (o : List Nat) (x : Nat) (l : List Nat) (h : row (x :: l) < 8) : parts o (x :: l) = parts (o ++ (x :: l).take 8) ((x :: l).drop 8) := by
  have h1 : ((x :: l).drop 8).length ≤ l.length := by rw [List.length_drop, List.length_cons]; omega
  unfold parts
  rw [List.length_cons, partsF, if_neg (by simp), if_neg (by omega), partsF_fuel l.length _ _ h1]
def flat (w : Nat) (P : List Part) : List UInt8 := P.flatMap (bytes w)
theorem flat_app (w : Nat) (P Q : List Part) : flat w (P ++ Q) = flat w P ++ flat w Q := by simp [flat]
theorem flat_cons (w : Nat) (p : Part) (Q : List Part) : flat w (p :: Q) = bytes w p ++ flat w Q := by simp [flat]
theorem flat_nil (w : Nat) : flat w [] = [] := rfl
def raw (l : List Nat) (w : Nat) : List UInt8 := flat w (parts [] l)
theorem bytes_run (w x m : Nat) : bytes w (.run x m) = Vary.wr (2 * m) ++ Bits.packed [x] w := rfl
theorem bytes_blk (w : Nat) (l : List Nat) : bytes w (.blk l) = Vary.wr (2 * (pad l).length / 8 + 1) ++ Bits.packed (pad l) w := rfl
def Part.ok (w n : Nat) : Part → Prop
  | .run x m => x < 2 ^ w ∧ 1 ≤ m ∧ m ≤ n
  | .blk b => b ≠ [] ∧ b.length ≤ n ∧ ∀ x ∈ b, x < 2 ^ w
theorem shut_ok (w n : Nat) (o : List Nat) (h : ∀ x ∈ o, x < 2 ^ w) (hn : o.length ≤ n) : ∀ p ∈ shut o, p.ok w n := fun p hp => by
  unfold shut at hp
  split at hp
  · cases hp
  · rename_i h0
    rw [List.mem_singleton] at hp
    subst hp
    exact ⟨h0, hn, h⟩
theorem parts_ok (w n : Nat) : ∀ (k : Nat) (l o : List Nat), l.length ≤ k → (∀ x ∈ o ++ l, x < 2 ^ w) → o.length + l.length ≤ n → ∀ p ∈ parts o l, p.ok w n := by
  intro k
  induction k with
  | zero =>
    intro l o hk hl hn
    obtain rfl : l = [] := List.length_eq_zero_iff.1 (by omega)
    rw [parts_nil]
    exact shut_ok w n o (fun x hx => hl x (by simp [hx])) (by simpa using hn)
  | succ k ih =>
    intro l o hk hl hn
    cases l with
    | nil => exact ih [] o (by simp) hl hn
    | cons x l =>
      by_cases h8 : 8 ≤ row (x :: l)
      · have hrl := row_le (x :: l)
        have hrp := row_pos x l
        rw [parts_run o x l h8]
        intro p hp
        rcases List.mem_append.1 hp with hp | hp
        · exact shut_ok w n o (fun x hx => hl x (by simp [hx])) (by omega) p hp
        · rcases List.mem_cons.1 hp with rfl | hp
          · exact ⟨hl x (by simp), hrp, by omega⟩
          · refine ih _ [] (by rw [List.length_drop]; simp only [List.length_cons] at hk ⊢; omega) (fun y hy => hl y ?_) (by simp only [List.length_nil, List.length_drop]; omega) p hp
            exact List.mem_append.2 (.inr (List.mem_of_mem_drop (by simpa using hy)))
      · rw [parts_blk o x l (by omega)]
        have e := congrArg List.length (List.take_append_drop 8 (x :: l))
        rw [List.length_append] at e
        exact ih _ _ (by rw [List.length_drop]; simp only [List.length_cons] at hk ⊢; omega) (by rw [List.append_assoc, List.take_append_drop]; exact hl) (by rw [List.length_append]; omega)
theorem parts_len : ∀ (k : Nat) (l o : List Nat), l.length ≤ k → (parts o l).length ≤ l.length + l.length + 1 := by
  intro k
  induction k with
  | zero =>
    intro l o hk
    obtain rfl : l = [] := List.length_eq_zero_iff.1 (by omega)
    rw [parts_nil]; unfold shut; split <;> simp
  | succ k ih =>
    intro l o hk
    cases l with
    | nil => exact ih [] o (by simp)
    | cons x l =>
      by_cases h8 : 8 ≤ row (x :: l)
      · have hrl := row_le (x :: l)
        rw [parts_run o x l h8]
        have := ih ((x :: l).drop (row (x :: l))) [] (by rw [List.length_drop]; simp only [List.length_cons] at hk ⊢; omega)
        rw [List.length_drop] at this
        have h1 : (shut o).length ≤ 1 := by unfold shut; split <;> simp
        rw [List.length_append, List.length_cons]
        omega
      · rw [parts_blk o x l (by omega)]
        have := ih ((x :: l).drop 8) (o ++ (x :: l).take 8) (by rw [List.length_drop]; simp only [List.length_cons] at hk ⊢; omega)
        rw [List.length_drop] at this
        omega
/-! ### reading -/
@[irreducible] def stp (w left : Nat) (s : List UInt8) : Nat × List Nat × Nat :=
  if (Vary.rd s).2.2 ≠ 0 then ((Vary.rd s).2.2, [], 0)
  else if (Vary.rd s).1 < 2 then (1, [], 0)
  else if (Vary.rd s).1 % 2 = 0 then
    if left < (Vary.rd s).1 / 2 then (2, [], 0)
    else if s.length - (Vary.rd s).2.1 < Bits.size 1 w then (5, [], 0)
    else if Bits.chk ((s.drop (Vary.rd s).2.1).take (Bits.size 1 w)) 1 w ≠ 0 then (1, [], 0)
    else (0, List.replicate ((Vary.rd s).1 / 2) (Bits.le ((s.drop (Vary.rd s).2.1).take (Bits.size 1 w)) % 2 ^ w), (Vary.rd s).2.1 + Bits.size 1 w)
  else
    if (left + 7) / 8 < (Vary.rd s).1 / 2 then (2, [], 0)
    else if s.length - (Vary.rd s).2.1 < Bits.size ((Vary.rd s).1 / 2 * 8) w then (5, [], 0)
    else if Bits.chk ((s.drop (Vary.rd s).2.1).take (Bits.size ((Vary.rd s).1 / 2 * 8) w)) ((Vary.rd s).1 / 2 * 8 : Nat) w ≠ 0 then (1, [], 0)
    else if ((Bits.unp ((s.drop (Vary.rd s).2.1).take (Bits.size ((Vary.rd s).1 / 2 * 8) w)) ((Vary.rd s).1 / 2 * 8) w).drop left).all (· == 0) = true then
      (0, (Bits.unp ((s.drop (Vary.rd s).2.1).take (Bits.size ((Vary.rd s).1 / 2 * 8) w)) ((Vary.rd s).1 / 2 * 8) w).take left, (Vary.rd s).2.1 + Bits.size ((Vary.rd s).1 / 2 * 8) w)
    else (1, [], 0)
def rdF (w many : Nat) : Nat → List UInt8 → List Nat → List Nat × Nat
  | 0, s, o => if many ≤ o.length then (if s = [] then (o, 0) else ([], 1)) else ([], 0)
  | f + 1, s, o => if many ≤ o.length then (if s = [] then (o, 0) else ([], 1)) else
      if (stp w (many - o.length) s).1 ≠ 0 then ([], (stp w (many - o.length) s).1) else rdF w many f (s.drop (stp w (many - o.length) s).2.2) (o ++ (stp w (many - o.length) s).2.1)
end Hy.Hyb
end
section
namespace Hy
open Go Go.RowKit
theorem made_u64s (k : Nat) : madeCells #[Value.int .u64 0] k = (u64s (List.replicate k 0)).toArray := by
  unfold madeCells u64s
  apply Array.ext'
  apply List.ext_getElem <;> simp [Nat.mod_one]
theorem splice_pad (l : List Nat) (k : Nat) : splice (u64s (List.replicate k 0)) 0 (u64s l) = u64s (l ++ List.replicate (k - l.length) 0) := by
  unfold splice u64s
  simp [List.drop_replicate]
theorem Rd.num0 {w : World} {A : Option Addr} {l : List Nat} (h : Rd w A (u64s l)) (hp : 0 < l.length) :
    ∃ b o, A = some ⟨b, o, none⟩ ∧ b < w.heap.size ∧ ∀ (k x : Nat), l[k]? = some x → w.cell? ⟨b, o + k, none⟩ = some (.int .u64 (x : Int)) := by
  obtain ⟨b, o, e, hb, hc⟩ := h (by rw [u64s_len]; exact hp)
  exact ⟨b, o, e, hb, fun k x hk => hc k _ (by simp [u64s, hk])⟩
theorem rd_of_row {w : World} {g : Nat} {cs : List Value} {e : TypeId} {fz : Nat × Nat} (h : w.heap[g]? = some (.cells cs.toArray e fz)) : Rd w (some ⟨g, 0, none⟩) cs := fun hp => by
  refine ⟨g, 0, rfl, ?_, fun j u hu => ?_⟩
  · rcases Nat.lt_or_ge g w.heap.size with hlt | hge
    · exact hlt
    · rw [Array.getElem?_eq_none hge] at h; cases h
  · simp only [World.cell?, h, Nat.zero_add]
    simpa using hu
end Hy
namespace Go.Proofs.YthgnipangcmanaaGreat
open Go.RowKit Hy
set_option maxHeartbeats 400000 in
theorem row_any (l : List Nat) (A : Option Addr) (n cap : Nat) (w : World) (hn : l.length = n) (hr : Rd w A (u64s l)) (h0 : 0 < n) (hnl : n ≤ 1000000) :
    Calls Tryz.prog 169 #[.slice A n cap] w fun e w' => e = .returned (.int .i64 (Hyb.row l : Nat)) ∧ Ext w w' := by
  obtain ⟨b1, o1, rfl, l1, c1⟩ := hr.num0 (by omega)
  obtain ⟨y, hy⟩ : ∃ y, l[0]? = some y := ⟨_, List.getElem?_eq_getElem (by omega)⟩
  have HN := hid hn
  have C1 := hid c1
  have H0 := hid h0
  have hnI : (n : Int) ≤ 1000000 := by omega
  have hn0 : (0 : Int) < (n : Int) := by omega
  have HS := hid (fun (k x : Nat) (h1 : 1 ≤ k) h2 h3 h4 => Hyb.row_stop l k x y h1 h2 h3 hy h4)
  have HE := hid (fun h2 => Hyb.row_end l (Nat.lt_of_lt_of_eq h0 hn.symm) h2)
  have dd0 := c1 0 y hy
  rw [Nat.add_zero] at dd0
  obtain ⟨V, hV⟩ : ∃ V, V = Hyb.row l := ⟨_, rfl⟩
  rw [← hV] at HS HE ⊢
  have HY := hid hy
  clear hr c1 hnl hV hn h0 hy
  go_enter Tryz.func169, Tryz.ntmps169
  go_wp2
  go_loopw [3] (fun c wr => ∃ k : Nat, 1 ≤ k ∧ k ≤ n ∧ c = .int .i64 k ∧ Hid (∀ j, j < k → l[j]? = l[0]?) ∧ Ext w wr) (fun c _ => n - (intOf c).toNat)
  case atStart => exact ⟨1, Nat.le_refl _, by have := H0.out; omega, rfl, hid (fun j hj => by rw [show j = 0 by omega]), ext_refl _⟩
  case round =>
    obtain ⟨k, hk1, hk, rfl, HT, X⟩ := hrel
    have HK1 := hid hk1
    have hk1I : (1 : Int) ≤ (k : Int) := by omega
    have d0 := (X.cell (p := ⟨b1, o1, none⟩) l1).trans dd0
    by_cases hlt : k < n
    · obtain ⟨x, hx⟩ : ∃ x, l[k]? = some x := ⟨_, List.getElem?_eq_getElem (by rw [HN.out]; exact hlt)⟩
      have d1 := (X.cell (p := ⟨b1, o1 + k, none⟩) l1).trans (C1.out k x hx)
      have HXX := hid hx
      clear hk1 hx dd0
      by_cases hxy : x = y
      · subst hxy
        have hb : ((x : Int) == (x : Int)) = true := by simp
        go_wp2_with fail
        go_quiet (fail)
        go_wp2
        go_roundw
        case rel => exact ⟨k + 1, by omega, by omega, by go_num, hid (fun j hj => by
          rcases Nat.lt_or_ge j k with h4 | h4
          · exact HT.out j h4
          · rw [show j = k by omega, HXX.out, HY.out]), X.draws _⟩
        case measure => simp [intOf]; omega
      · have hb : ((x : Int) == (y : Int)) = false := by rw [beq_eq_false_iff_ne]; omega
        go_wp2_with fail
        go_quiet (fail)
        go_wp2
        go_returns
        exact ⟨by rw [HS.out k x HK1.out HT.out HXX.out hxy]; rfl, X.draws _⟩
    · obtain rfl : k = n := by omega
      have HE2 := hid (HE.out (fun j h => HT.out j (by rw [← HN.out]; exact h)))
      clear hk1 dd0
      go_wp2_with fail
      go_quiet (fail)
      go_wp2
      go_returns
      exact ⟨by rw [HE2.out, HN.out]; rfl, X.draws _⟩
theorem info_u64 : (Tryz.prog.info? 34).map (fun i => (i.zero, i.size, i.bytes)) = some (some (.int .u64 0), 1, 8) := by kernel_rfl
theorem mk64 (k : Nat) (hk : k ≤ 1000000000000) (w : World) : (Instr.makeSlice 58 (.int .i64 (k : Int)) (.int .i64 (k : Int))).run Tryz.prog w =
    .ok (.slice (some ⟨w.heap.size, 0, none⟩) k k) (w.alloc (.cells (u64s (List.replicate k 0)).toArray 34)) := by
  obtain ⟨i, hi, hz, hs, hb⟩ := info_parts info_u64
  rw [run_make w 58 34 i (.int .u64 0) Tryz.underlying58 hi hz .i64 .i64 (k : Int) (k : Int) (by omega) (by omega) (by rw [hb]; omega) (by omega)]
  rw [hs, Nat.mul_one, Int.toNat_natCast, show (Value.int .u64 0).cells = #[.int .u64 0] from rfl, made_u64s]
set_option maxRecDepth 100000 in
set_option maxHeartbeats 1600000 in
theorem blkBytes_any (l : List Nat) (A : Option Addr) (n cap wd : Nat) (w : World) (hn : l.length = n) (hr : Rd w A (u64s l)) (h0 : 0 < n) (hnl : n ≤ 64) (hl : ∀ x ∈ l, x < 2 ^ wd) (hwd : wd ≤ 64) :
    Calls Tryz.prog 219 #[.slice A n cap, .int .i64 wd] w fun e w' => e = .returned (.string ⟨(Hyb.bytes wd (.blk l)).toArray⟩) ∧ Ext w w' := by
  obtain ⟨k, hk⟩ : ∃ k, k = (n + 7) / 8 * 8 := ⟨_, rfl⟩
  have hpl := Hyb.pad_len l
  rw [hn, ← hk] at hpl
  have hpd : l ++ List.replicate (k - l.length) 0 = Hyb.pad l := by unfold Hyb.pad; rw [hn, hk]
  have hmk := mk64 k (by omega)
  have HS := hid (show (Tryz.prog.info? 34).map (·.size) = some 1 by kernel_rfl)
  have HA := hid (show (u64s l).length = Nat.min n k by rw [u64s_len, hn]; exact (Nat.min_eq_left (by omega)).symm)
  have HFT := hid (show 0 + (u64s l).length ≤ (u64s (List.replicate k 0)).length by rw [u64s_len, u64s_len, List.length_replicate, hn]; omega)
  have HBK := hid (show (w.alloc (.cells (u64s (List.replicate k 0)).toArray 34)).heap[w.heap.size]? = some (.cells (u64s (List.replicate k 0)).toArray 34 (0, 0)) from Blk.new w _ _)
  have HSP := hid ((splice_pad l k).trans (by rw [hpd]))
  have HC := hid (fun _ : 0 < (u64s l).length => show (some (⟨w.heap.size, 0, none⟩ : Addr)) = some ⟨w.heap.size, 0, none⟩ ∧ ∃ ad, A = some ad ∧ ∀ j v, (u64s l)[j]? = some v → (w.alloc (.cells (u64s (List.replicate k 0)).toArray 34)).cell? (ad.add j) = some v from by
    obtain ⟨b, o, e, l1, c1⟩ := (hr.keep ((ext_refl w).new _)) (by rw [u64s_len]; omega)
    exact ⟨rfl, _, e, fun j v hv => by rw [add_none]; exact c1 j v hv⟩)
  have HW := hid (fun wx => write_any (k / 4 + 1) wx (by omega))
  have HR := hid (fun (wx : World) C c (h : Rd wx C (u64s (Hyb.pad l))) => braw_any (Hyb.pad l) C k c wd wx hpl h (Hyb.pad_lt l wd hl) (by omega) hwd)
  have HV := hid (show (⟨(Vary.wr (k / 4 + 1)).toArray⟩ : ByteArray) ++ ⟨(Bits.packed (Hyb.pad l) wd).toArray⟩ = ⟨(Hyb.bytes wd (.blk l)).toArray⟩ by
    rw [str_app, Hyb.bytes_blk, hpl, show 2 * k / 8 = k / 4 by omega])
  obtain ⟨VS, hVS⟩ : ∃ VS : ByteArray, VS = ⟨(Hyb.bytes wd (.blk l)).toArray⟩ := ⟨_, rfl⟩
  obtain ⟨PD, hPD⟩ : ∃ PD, PD = Hyb.pad l := ⟨_, rfl⟩
  rw [← hVS] at HV ⊢
  rw [← hPD] at HV HR HSP
  obtain ⟨q, hq⟩ : ∃ q, q = k / 4 + 1 := ⟨_, rfl⟩
  rw [← hq] at HW HV
  have hkI : (k : Int) ≤ 64 := by omega
  have hk0 : (0 : Int) ≤ (k : Int) := by omega
  have hw1 : IntKind.i64.wrap (IntKind.i64.wrap ((n : Int) + 8) - 1) = (n : Int) + 7 := by rw [IntKind.wrap_i64, IntKind.wrap_i64]; omega
  have hw2 : ((n : Int) + 7).tdiv 8 * 8 = (k : Int) := by rw [Int.tdiv_eq_ediv_of_nonneg (by omega)]; omega
  have hw3 : (2 * (k : Int)).tdiv 8 + 1 = (q : Int) := by rw [Int.tdiv_eq_ediv_of_nonneg (by omega)]; omega
  have hw4 : (2 * (k : Int)) / 8 + 1 = (q : Int) := by omega
  have hw5 : ((n : Int) + 8 - 1) / 8 * 8 = (k : Int) := by omega
  have hqI : (q : Int) ≤ 17 := by omega
  have hq0 : (0 : Int) ≤ (q : Int) := by omega
  have hnI : (n : Int) ≤ 64 := by omega
  have hz1 : (Vary.wr q).length ≤ 9 := by rw [Vary.wr_len]; have := Vary.beh_le8 q; omega
  have hz2 : (Bits.packed PD wd).length ≤ 600 := by
    rw [Bits.packed_len, hPD, hpl]
    have h := Nat.mul_le_mul (show k ≤ 64 by omega) hwd
    unfold Bits.size; omega
  clear hpl hpd hn hr hnl hl hwd hk hq hVS hPD h0
  go_enter Tryz.func219, Tryz.ntmps219
  go_wp2_with (with_reducible (show wpList _ _ _ (⟨some 15, _, _, _, _, _⟩ :: _) _ _); go_loud (refine wpList_copy_splice rfl (.tmp 13) (.tmp 14) 58 175 rfl 34 Tryz.underlying58 HS.out _ _ _ _ _ _ rfl rfl w.heap.size 0 (u64s (List.replicate k 0)) 34 HBK.out (u64s l) HA.out HC.out HFT.out (u64s_one _) w.heap.size w (Ext.new (ext_refl w) _) (Nat.le_refl _) ?_; intro w2 HG HB))
  have HRD := hid (show Rd w2 (some ⟨w.heap.size, 0, none⟩) (u64s PD) from rd_of_row (by rw [← HSP.out]; exact HG.out))
  have HX : Hid (Ext w w2) := hid HB
  clear HG HB HC HBK HFT HA HS HSP hmk
  refine Calls.mono (HW.out _) ?_
  rintro e w3 ⟨rfl, hx⟩
  replace HX := hid (HX.out.then hx)
  replace HRD := hid (HRD.out.keep hx)
  clear hx
  go_wp2_with fail
  refine Calls.mono (HR.out _ _ _ HRD.out) ?_
  rintro e w4 ⟨rfl, hx⟩
  replace HX := hid (HX.out.then hx)
  clear hx
  go_wp2
  go_returns
  exact ⟨by rw [← HV.out]; rfl, HX.out⟩
set_option maxRecDepth 100000 in
set_option maxHeartbeats 1600000 in
theorem runBytes_any (x m wd : Nat) (w : World) (hm1 : 1 ≤ m) (hm : m ≤ 64) (hx : x < 2 ^ wd) (hwd : wd ≤ 64) :
    Calls Tryz.prog 220 #[.agg #[.int .u64 (x : Int), .int .i64 (m : Int)], .int .i64 wd] w fun e w' => e = .returned (.string ⟨(Hyb.bytes wd (.run x m)).toArray⟩) ∧ Ext w w' := by
  have HW := hid (fun wx => write_any (2 * m) wx (by omega))
  have HR := hid (fun (wx : World) C c (h : Rd wx C (u64s [x])) => braw_any [x] C 1 c wd wx rfl h (by simpa using hx) (by omega) hwd)
  have HV := hid (show (⟨(Vary.wr (2 * m)).toArray⟩ : ByteArray) ++ ⟨(Bits.packed [x] wd).toArray⟩ = ⟨(Hyb.bytes wd (.run x m)).toArray⟩ by rw [str_app, Hyb.bytes_run])
  obtain ⟨VS, hVS⟩ : ∃ VS : ByteArray, VS = ⟨(Hyb.bytes wd (.run x m)).toArray⟩ := ⟨_, rfl⟩
  rw [← hVS] at HV ⊢
  obtain ⟨q, hq⟩ : ∃ q, q = 2 * m := ⟨_, rfl⟩
  rw [← hq] at HW HV
  have hw1 : (2 * (m : Int)) = (q : Int) := by omega
  have hqI : (q : Int) ≤ 128 := by omega
  have hq0 : (0 : Int) ≤ (q : Int) := by omega
  have hmI : (m : Int) ≤ 64 := by omega
  have hw2 : IntKind.i64.wrap (2 * (m : Int)) = (q : Int) := by rw [IntKind.wrap_i64]; omega
  have hw3 : IntKind.u64.wrap (q : Int) = (q : Int) := by rw [IntKind.wrap_u64]; omega
  have B0 := (Blk.new w 177 #[.int .u64 (x : Int), .int .i64 (m : Int)]).cell
  have p0 : (w.alloc (.cells #[.int .u64 (x : Int), .int .i64 (m : Int)] 177)).cell? ⟨w.heap.size, 0, none⟩ = some (.int .u64 (x : Int)) := B0 0
  have p1 : (w.alloc (.cells #[.int .u64 (x : Int), .int .i64 (m : Int)] 177)).cell? ⟨w.heap.size, 1, none⟩ = some (.int .i64 (m : Int)) := B0 1
  have X0 := (ext_refl w).new (.cells #[.int .u64 (x : Int), .int .i64 (m : Int)] 177)
  obtain ⟨W1, hW1⟩ : ∃ W1, W1 = w.alloc (.cells #[.int .u64 (x : Int), .int .i64 (m : Int)] 177) := ⟨_, rfl⟩
  rw [← hW1] at p0 p1 X0
  have p0r := cell_regrown p0
  have p1r := cell_regrown p1
  have HX0 := hid X0
  have HW1 := hid hW1
  clear X0 hW1
  have hz1 : (Vary.wr q).length ≤ 9 := by rw [Vary.wr_len]; have := Vary.beh_le8 q; omega
  have hz2 : (Bits.packed [x] wd).length ≤ 600 := by
    rw [Bits.packed_len, List.length_singleton]
    unfold Bits.size; omega
  clear B0 hm1 hm hx hwd hVS hq
  go_enter Tryz.func220, Tryz.ntmps220
  go_wp2_with fail
  rw [← HW1.out]
  refine wp_region_tree (.one 0 true (.one 1 true (.one 2 true (.one 3 true (.one 5 true (.one 6 true (.one 8 true (.two 4 7 (.one 7 false (.one 9 false (.one 10 true (.one 11 true .nil)))) (.two 4 9 (.one 9 false (.one 10 true (.one 11 true .nil))) (.one 4 false (.one 10 true (.one 11 true .nil))))))))))) ) (by kernel_rfl) (by kernel_rfl) (fun _ _ _ _ _ h => h) (by kernel_rfl) (by rfl) ?_
  simp only [fillT, List.getD_cons_zero, List.getD_cons_succ]
  have X1 := (ext_refl W1).draw
  repeat (refine wpTO_val (by rfl) ?_; intro K hK; go_big_quiet_op; go_big_quiet_on)
  refine wpTO_two ?_ ?_
  · refine wpTO_do (by rfl) ?_
    intro K hK
    go_simp
    refine Calls.mono (HW.out _) ?_
    rintro e y1 ⟨rfl, hx⟩
    have X2 := X1.then hx
    refine hK _ _ X2 ?_
    clear K hK hx
    refine wpTO_do (by rfl) ?_
    intro K hK
    go_simp
    have HRD := rd_lit (w := y1) (g := (y1).heap.size) (C := #[.int .u64 (x : Int)]) (e := 34) (fz := (0, 0)) (cs := u64s [x]) rfl rfl
    have X3 := Ext.new X2 (.cells #[.int .u64 (x : Int)] 34)
    refine hK _ _ X3 ?_
    clear K hK
    refine wpTO_do (by rfl) ?_
    intro K hK
    go_simp
    refine Calls.mono (HR.out _ _ _ (HRD)) ?_
    rintro e y2 ⟨rfl, hx⟩
    have X4 := X3.then hx
    refine hK _ _ X4 ?_
    clear K hK hx
    repeat (refine wpTO_val (by rfl) ?_; intro K hK; go_big_quiet_op; go_big_quiet_on)
    refine wpTO_nil ?_
    have XE := hid (HX0.out.then X4)
    clear p0r p1r p0 p1
    go_wp2
    go_returns
    exact ⟨by rw [← HV.out]; rfl, XE.out⟩
  · refine wpTO_do (by rfl) ?_
    intro K hK
    go_simp
    have HRD := rd_lit (w := W1.drew) (g := (W1.drew).heap.size) (C := #[.int .u64 (x : Int)]) (e := 34) (fz := (0, 0)) (cs := u64s [x]) rfl rfl
    have X2 := Ext.new X1 (.cells #[.int .u64 (x : Int)] 34)
    refine hK _ _ X2 ?_
    clear K hK
    refine wpTO_two ?_ ?_
    · refine wpTO_do (by rfl) ?_
      intro K hK
      go_simp
      refine Calls.mono (HW.out _) ?_
      rintro e y1 ⟨rfl, hx⟩
      have X3 := X2.then hx
      refine hK _ _ X3 ?_
      have HRD2 := HRD.keep hx
      clear K hK hx
      refine wpTO_do (by rfl) ?_
      intro K hK
      go_simp
      refine Calls.mono (HR.out _ _ _ (HRD2)) ?_
      rintro e y2 ⟨rfl, hx⟩
      have X4 := X3.then hx
      refine hK _ _ X4 ?_
      clear K hK hx
      repeat (refine wpTO_val (by rfl) ?_; intro K hK; go_big_quiet_op; go_big_quiet_on)
      refine wpTO_nil ?_
      have XE := hid (HX0.out.then X4)
      clear p0r p1r p0 p1
      go_wp2
      go_returns
      exact ⟨by rw [← HV.out]; rfl, XE.out⟩
    · refine wpTO_do (by rfl) ?_
      intro K hK
      go_simp
      refine Calls.mono (HR.out _ _ _ (HRD)) ?_
      rintro e y1 ⟨rfl, hx⟩
      have X3 := X2.then hx
      refine hK _ _ X3 ?_
      clear K hK hx
      refine wpTO_do (by rfl) ?_
      intro K hK
      go_simp
      refine Calls.mono (HW.out _) ?_
      rintro e y2 ⟨rfl, hx⟩
      have X4 := X3.then hx
      refine hK _ _ X4 ?_
      clear K hK hx
      repeat (refine wpTO_val (by rfl) ?_; intro K hK; go_big_quiet_op; go_big_quiet_on)
      refine wpTO_nil ?_
      have XE := hid (HX0.out.then X4)
      clear p0r p1r p0 p1
      go_wp2
      go_returns
      exact ⟨by rw [← HV.out]; rfl, XE.out⟩
end Go.Proofs.YthgnipangcmanaaGreat
end
section
namespace Hy
open Go Go.RowKit
theorem rd_grown {w w' : World} {b o : Nat} {cs : List Value} {row : Option Nat} (h : Rd w (some ⟨b, o, none⟩) cs) (hg : w.grownBy w' row) (hne : row ≠ some b) : Rd w' (some ⟨b, o, none⟩) cs := fun hp => by
  obtain ⟨b', o', e, hlt, hc⟩ := h hp
  cases e
  refine ⟨b, o, rfl, Nat.lt_of_lt_of_le hlt hg.size, fun j u hu => ?_⟩
  have := hg.block b hlt (Ne.symm hne)
  rw [← hc j u hu]
  simp only [World.cell?, this]
theorem own_grown {base : Nat} {e : TypeId} {size : Nat} {v : Value} {n : Nat} {xs : List Value} {w w' : World} {row : Option Nat} (h : w.ownsRow base e size v n xs) (hg : w.grownBy w' row) (hne : v.ownBlock = none ∨ row ≠ v.ownBlock) : w'.ownsRow base e size v n xs := by
  refine ⟨h.1, ?_⟩
  rcases h.2 with h | ⟨b, cap, cur, hv, hb, hgg, r⟩
  · exact .inl h
  · refine .inr ⟨b, cap, cur, hv, hb, ?_, r⟩
    have hlt : b < w.heap.size := by
      rcases Nat.lt_or_ge b w.heap.size with hlt | hge
      · exact hlt
      · rw [Array.getElem?_eq_none hge] at hgg; cases hgg
    rw [hg.block b hlt ?_]; exact hgg
    rcases hne with hne | hne
    · rw [hv] at hne; cases hne
    · rw [hv] at hne; exact Ne.symm hne
theorem blk_grown {w w' : World} {g : Nat} {t : TypeId} {cs : Array Value} {row : Option Nat} (h : Blk w g t cs) (hg : w.grownBy w' row) (hne : row ≠ some g) : Blk w' g t cs := (hg.block g h.lt (Ne.symm hne)).trans h
theorem but_put (w : World) (p : Addr) (u : Value) : But p.block w (w.setCell p u) := (but_refl p.block w).put p (.inl rfl) u
end Hy
namespace Go.Proofs.YthgnipangcmanaaGreat
open Go.RowKit Hy
def PartV (w : World) (dead : Nat → Prop) (v : Value) : Hyb.Part → Prop
  | .run x m => v = .iface 177 (.agg #[.int .u64 (x : Int), .int .i64 (m : Int)])
  | .blk l => ∃ b cap, v = .iface 175 (.slice (some ⟨b, 0, none⟩) l.length cap) ∧ Rd w (some ⟨b, 0, none⟩) (u64s l) ∧ dead b ∧ b < w.heap.size
theorem PartV.grown {w w' : World} {row : Option Nat} {dead dead' : Nat → Prop} {v : Value} {p : Hyb.Part} (h : PartV w dead v p) (hg : w.grownBy w' row) (hr : ∀ b, dead b → row ≠ some b) (hd : ∀ b, b < w.heap.size → dead b → dead' b) : PartV w' dead' v p := by
  cases p with
  | run x m => exact h
  | blk l =>
    obtain ⟨b, cap, e, r, d, lt⟩ := h
    exact ⟨b, cap, e, rd_grown r hg (hr b d), hd b lt d, Nat.lt_of_lt_of_le lt hg.size⟩
def PartsV (w : World) (dead : Nat → Prop) (P : List Hyb.Part) (xs : List Value) : Prop := ∀ (i : Nat) (p : Hyb.Part), P[i]? = some p → ∃ v : Value, xs[i]? = some v ∧ PartV w dead v p
theorem PartsV.grown {w w' : World} {row : Option Nat} {dead dead' : Nat → Prop} {P : List Hyb.Part} {xs : List Value} (h : PartsV w dead P xs) (hg : w.grownBy w' row) (hr : ∀ b, dead b → row ≠ some b) (hd : ∀ b, b < w.heap.size → dead b → dead' b) : PartsV w' dead' P xs := fun i p hi => by
  obtain ⟨v, h1, h2⟩ := h i p hi
  exact ⟨v, h1, h2.grown hg hr hd⟩
theorem PartsV.snoc {w : World} {dead : Nat → Prop} {P : List Hyb.Part} {xs : List Value} {v : Value} {q : Hyb.Part} (h : PartsV w dead P xs) (hl : xs.length = P.length) (hv : PartV w dead v q) : PartsV w dead (P ++ [q]) (xs ++ [v]) := fun i p hi => by
  rcases Nat.lt_or_ge i P.length with h1 | h1
  · rw [List.getElem?_append_left h1] at hi
    rw [List.getElem?_append_left (by omega)]; exact h i p hi
  · rw [List.getElem?_append_right h1] at hi
    obtain h0 : i - P.length = 0 := by
      have := (List.getElem?_eq_some_iff.1 hi).1; simp at this; omega
    rw [h0] at hi
    rw [List.getElem?_append_right (by omega), hl, h0]
    cases hi
    exact ⟨v, rfl, hv⟩
def HySt (base bo bp : Nat) (w : World) (P : List Hyb.Part) (o : List Nat) : Prop :=
  ∃ vp vo xs, Blk w bo 175 #[vo] ∧ Blk w bp 141 #[vp] ∧ w.ownsRow base 144 1 vp P.length xs ∧ w.ownsRow base 34 1 vo o.length (u64s o) ∧
    PartsV w (fun b => base ≤ b ∧ vp.ownBlock ≠ some b ∧ vo.ownBlock ≠ some b) P xs
theorem rowPt : RowT Tryz.prog 141 144 1 16 := RowT.mk' (z := .nilIface) Tryz.underlying141 (by kernel_rfl) rfl (by decide)
theorem rowBk : RowT Tryz.prog 175 34 1 8 := RowT.mk' (z := .int .u64 0) Tryz.underlying175 (by kernel_rfl) rfl (by decide)
set_option maxRecDepth 100000 in
set_option maxHeartbeats 1600000 in
theorem shut_any (B base bo bp : Nat) (P : List Hyb.Part) (o : List Nat) (w : World) (hS : HySt base bo bp w P o) (hne : bo ≠ bp) (h1 : B ≤ bo) (h2 : B ≤ bp) (h3 : bo < base) (h4 : bp < base) (hbw : base ≤ w.heap.size) (hP : P.length ≤ 1000) (ho : o.length ≤ 1000) :
    Calls Tryz.prog 168 #[.pointer (some ⟨bo, 0, none⟩), .pointer (some ⟨bp, 0, none⟩)] w fun e w' => e = .returned (.tuple #[]) ∧ HySt base bo bp w' (P ++ Hyb.shut o) [] ∧ Below B w w' := by
  obtain ⟨vp, vo, xs, B1, B2, O1, O2, PV⟩ := hS
  have hc2 := B2.cell 0
  have hf1 := B1.frozen 0
  have hf2 := B2.frozen 0
  have HB1 := hid B1
  have HB2 := hid B2
  have HO1 := hid O1
  have HO2 := hid O2
  have HPV := hid PV
  have HPL := hid hP
  by_cases h0 : o = []
  · subst h0
    obtain ⟨A, cap, rfl, _⟩ := Rd.owned O2
    have hc1 := B1.cell 0
    clear B1 B2 O1 O2 PV
    go_enter Tryz.func168, Tryz.ntmps168
    go_wp2
    go_returns
    refine ⟨rfl, ?_, Below.refl _ _⟩
    rw [Hyb.shut_nil, List.append_nil]
    exact ⟨_, _, xs, HB1.out, HB2.out, HO1.out, HO2.out, HPV.out⟩
  · have hposI : (0 : Int) < (o.length : Int) := by have := List.length_pos_iff.2 h0; omega
    have HOE := hid h0
    obtain ⟨b, cap, rfl, hbb⟩ : ∃ b cap, vo = .slice (some ⟨b, 0, none⟩) o.length cap ∧ base ≤ b := by
      rcases O2.2 with ⟨_, hz⟩ | ⟨b, cap, cur, e, hbb, _⟩
      · exact absurd (List.eq_nil_of_length_eq_zero hz) h0
      · exact ⟨b, cap, e, hbb⟩
    have hc1 := B1.cell 0
    have hrd : Rd w (some ⟨b, 0, none⟩) (u64s o) := by
      obtain ⟨A, c, e, hr, _⟩ := Rd.owned O2
      cases e; exact hr
    have HRD := hid hrd
    have HHB := hid hbb
    have HLT := hid (show b < w.heap.size from (O2.lt b rfl).2)
    have HNB := hid (show vp.ownBlock ≠ some bo from fun e => by have := (O1.lt bo e).1; omega)
    have HNP := hid (show vp.ownBlock ≠ some bp from fun e => by have := (O1.lt bp e).1; omega)
    have HNE := hid (own_ne O2 O1 (by decide))
    clear B1 B2 O1 O2 PV hrd hbb hP h0
    go_enter Tryz.func168, Tryz.ntmps168
    go_wp2_with (at_builtin; refine wpList_app rfl (.tmp 5) (.tmp 8) rowPt rfl _ P.length xs rfl (own_ext HO1.out ((ext_refl w).new _)) _ 1 [.iface 175 (.slice (some ⟨b, 0, none⟩) o.length cap)] rfl (Src.rd Tryz.underlying141 _ 1 1 _ rfl (rd_lit rfl rfl) (fun u hu => by rw [List.mem_singleton] at hu; subst hu; rfl) (fun h => by cases h)) (by have := HPL.out; unfold maxLen; omega) (by have := HPL.out; omega) (by simp; omega) ?_; intro v3 w3 hown3 hgr3 hat3 hbel3; obtain ⟨C3, c3, rfl, _⟩ := Rd.owned hown3; have B13 := (blk_grown (HB1.out.alloc _) hgr3 HNB.out); have B23 := (blk_grown (HB2.out.alloc _) hgr3 HNP.out); have hc13 := B13.cell 0; have hc23 := B23.cell 0; have hf13 := B13.frozen 0; have hf23 := B23.frozen 0; have HB13 := hid B13; have HB23 := hid B23; have HO3 := hid hown3; have HG3 := hid hgr3; have HA3 := hid hat3; have HL3 := hid hbel3; clear hown3 hgr3 hat3 hbel3 B13 B23 hc1 hc2 hf1 hf2)
    go_wp2
    go_returns
    refine ⟨rfl, ?_, ?_⟩
    · rw [Hyb.shut_of o HOE.out]
      refine ⟨.slice C3 (P.length + 1) c3, .slice none 0 0, xs ++ [.iface 175 (.slice (some ⟨b, 0, none⟩) o.length cap)], ?_, ?_, ?_, ?_, ?_⟩
      · exact (HB13.out.far hne _).set 0 _
      · exact (HB23.out.set 0 _).far (Ne.symm hne) _
      · rw [List.length_append]
        exact own_but (own_but HO3.out (but_put _ _ _) h4) (but_put _ _ _) h3
      · exact ⟨rfl, .inl ⟨rfl, rfl⟩⟩
      · have hown : ∀ c, c < (w.alloc (.cells #[.iface 175 (.slice (some ⟨b, 0, none⟩) o.length cap)] 144)).heap.size → vp.ownBlock ≠ some c → (Value.slice C3 (P.length + 1) c3).ownBlock ≠ some c := fun c hc hn => by
          rcases HA3.out with e | e
          · rw [e]; exact hn
          · rw [e]; intro e2; injection e2 with e2; omega
        have hsz : w.heap.size < (w.alloc (.cells #[.iface 175 (.slice (some ⟨b, 0, none⟩) o.length cap)] 144)).heap.size := by simp
        have hbv : vp.ownBlock ≠ some b := by
          rcases HNE.out with e | e
          · cases e
          · exact Ne.symm e
        have P1 : PartsV w3 (fun c => base ≤ c ∧ (Value.slice C3 (P.length + 1) c3).ownBlock ≠ some c ∧ (Value.slice none 0 0).ownBlock ≠ some c) P xs := fun i p hi => by
          obtain ⟨v, e1, e2⟩ := HPV.out i p hi
          refine ⟨v, e1, ?_⟩
          cases p with
          | run x m => exact e2
          | blk l =>
            obtain ⟨c, cc, e3, r, ⟨d1, d2, d3⟩, lt⟩ := e2
            exact ⟨c, cc, e3, rd_grown (r.keep ((ext_refl w).new _)) HG3.out d2, ⟨d1, hown c (by omega) d2, by intro e; cases e⟩, Nat.lt_of_lt_of_le (by omega) HG3.out.size⟩
        have P2 := P1.snoc (v := .iface 175 (.slice (some ⟨b, 0, none⟩) o.length cap)) (q := .blk o) (by have := HO3.out.1; simpa using this) ⟨b, cap, rfl, rd_grown (HRD.out.keep ((ext_refl w).new _)) HG3.out hbv, ⟨HHB.out, hown b (by have := HLT.out; omega) hbv, by intro e; cases e⟩, Nat.lt_of_lt_of_le (by have := HLT.out; omega) HG3.out.size⟩
        refine (P2.grown (but_put _ ⟨bp, 0, none⟩ _) (fun c hc e => ?_) (fun _ _ h => h)).grown (but_put _ ⟨bo, 0, none⟩ _) (fun c hc e => ?_) (fun _ _ h => h)
        · injection e with e; have := hc.1; simp only at e; omega
        · injection e with e; have := hc.1; simp only at e; omega
    · refine Below.setCell (Below.setCell (Below.trans ((Below.refl B w).alloc (by omega) _) (HL3.out.mono (by omega))) (by simpa using h2) _) (by simpa using h1) _
end Go.Proofs.YthgnipangcmanaaGreat
end
section
namespace Hy
open Go
def sLen : Value → Nat
  | .slice _ n _ => n
  | _ => 0
theorem u64s_flat (l : List Nat) : u64s l = l.flatMap fun n : Nat => [Value.int .u64 (n : Int)] := by
  unfold u64s
  induction l with
  | nil => rfl
  | cons b l ih => rw [List.flatMap_cons, List.map_cons, ih]; rfl
theorem Rd.u64from {w : World} {A : Option Addr} {l : List Nat} (h : Rd w A (u64s l)) (k cap : Nat) (hc : l.length ≤ cap) : Rd w (slF A k cap 1) (u64s (l.drop k)) := by
  rw [u64s_flat] at h ⊢
  exact Rd.from (f := fun n : Nat => [Value.int .u64 (n : Int)]) (m := 1) (fun _ => rfl) h k cap hc
end Hy
namespace Go.Proofs.YthgnipangcmanaaGreat
open Go.RowKit Hy
theorem PartsV.keep {w w' : World} {dead dead' : Nat → Prop} {P : List Hyb.Part} {xs : List Value} (h : PartsV w dead P xs) (hx : Ext w w') (hd : ∀ b, b < w.heap.size → dead b → dead' b) : PartsV w' dead' P xs := fun i p hi => by
  obtain ⟨v, e1, e2⟩ := h i p hi
  refine ⟨v, e1, ?_⟩
  cases p with
  | run x m => exact e2
  | blk l =>
    obtain ⟨c, cc, e3, r, d, lt⟩ := e2
    exact ⟨c, cc, e3, r.keep hx, hd c lt d, Nat.lt_of_lt_of_le lt hx.size⟩
theorem HySt.keep {base bo bp : Nat} {w w' : World} {P : List Hyb.Part} {o : List Nat} (h : HySt base bo bp w P o) (hx : Ext w w') : HySt base bo bp w' P o := by
  obtain ⟨vp, vo, xs, b1, b2, o1, o2, pv⟩ := h
  exact ⟨vp, vo, xs, b1.keep hx, b2.keep hx, own_ext o1 hx, own_ext o2 hx, pv.keep hx (fun _ _ h => h)⟩
theorem take_minl {α : Type} (l : List α) (n : Nat) : l.take (min n l.length) = l.take n := by
  rcases Nat.le_total n l.length with h | h
  · rw [Nat.min_eq_left h]
  · rw [Nat.min_eq_right h, List.take_length, List.take_of_length_le h]
theorem drop_minl {α : Type} (l : List α) (n : Nat) : l.drop (min n l.length) = l.drop n := by
  rcases Nat.le_total n l.length with h | h
  · rw [Nat.min_eq_left h]
  · rw [Nat.min_eq_right h, List.drop_length, List.drop_of_length_le h]
set_option maxRecDepth 100000 in
set_option maxHeartbeats 800000 in
theorem parts_any (l : List Nat) (A : Option Addr) (n cap : Nat) (w : World) (hn : l.length = n) (hr : Rd w A (u64s l)) (hcap : n ≤ cap) (hnl : n ≤ 64) :
    Calls Tryz.prog 138 #[.slice A n cap] w fun e w' => ∃ C c xs, e = .returned (.slice C (Hyb.parts [] l).length c) ∧ Rd w' C xs ∧ PartsV w' (fun _ => True) (Hyb.parts [] l) xs ∧ xs.length = (Hyb.parts [] l).length ∧ Ext w w' := by
  have HA := hid hr
  have HN := hid hn
  have HNL := hid hnl
  obtain ⟨V, hV⟩ : ∃ V, V = Hyb.parts [] l := ⟨_, rfl⟩
  rw [← hV]
  have HVL := hid (show V.length ≤ 200 by rw [hV]; have := Hyb.parts_len l.length l [] (Nat.le_refl _); omega)
  have HV := hid hV
  clear hr hV hnl
  go_enter Tryz.func138, Tryz.ntmps138
  go_wp2
  go_loopw [0] (fun c wr => ∃ (r : List Nat) (R : Option Addr) (rc : Nat) (P : List Hyb.Part) (o : List Nat), c = .slice R r.length rc ∧ r.length ≤ rc ∧ Hid (Rd w R (u64s r)) ∧ Hid (HySt (w.heap.size + 1 + 1) (w.heap.size + 1) w.heap.size wr P o) ∧ Hid (P ++ Hyb.parts o r = V) ∧ Hid (r.length + o.length ≤ 64) ∧ Hid (Ext w wr) ∧ Hid (w.heap.size + 1 + 1 ≤ wr.heap.size)) (fun c _ => sLen c)
  case atStart =>
    refine ⟨l, A, cap, [], [], by rw [HN.out], by rw [HN.out]; exact hcap, HA, hid ⟨.slice none 0 0, .slice none 0 0, [], ?_, ?_, ⟨rfl, .inl ⟨rfl, rfl⟩⟩, ⟨rfl, .inl ⟨rfl, rfl⟩⟩, fun i p hi => by simp at hi⟩, hid (by rw [List.nil_append]; exact HV.out.symm), hid (by rw [HN.out]; simpa using HNL.out), hid (((ext_refl w).new _).new _), hid (by simp)⟩
    · exact Blk.newAt (by simp)
    · exact (Blk.new w _ _).alloc _
  case round =>
    obtain ⟨r, R, rc, P, o, rfl, hrc, HR, HS, HP, HO, HX, HB⟩ := hrel
    cases r with
    | nil =>
      have HE : Hid (P ++ Hyb.shut o = V) := hid (by rw [← HP.out, Hyb.parts_nil])
      have HPL := hid (show P.length ≤ 200 by have := HVL.out; rw [← HE.out, List.length_append] at this; omega)
      have HC := hid (shut_any w.heap.size _ _ _ P o wr HS.out (by omega) (by omega) (by omega) (by omega) (by omega) HB.out (by have := HPL.out; omega) (by have := HO.out; omega))
      have h0 : ((([] : List Nat).length : Nat) : Int) = 0 := rfl
      clear HS HP hrc HR
      go_wp2_with fail
      refine Calls.mono HC.out ?_
      rintro e w2 ⟨rfl, hs, hb⟩
      have HX2 : Hid (Ext w w2) := hid (Below.trans HX.out hb)
      rw [HE.out] at hs
      obtain ⟨vp, vo, xs, b1, b2, o1, o2, pv⟩ := hs
      obtain ⟨C, c, rfl, hrd, _⟩ := Rd.owned o1
      have hc2 := b2.cell 0
      have HPV := hid pv
      have HRD := hid hrd
      have HLX := hid (show xs.length = V.length from by have := o1.1; omega)
      clear b1 b2 o1 o2 pv hrd hb
      go_wp2
      go_returns
      exact ⟨C, c, xs, rfl, HRD.out, HPV.out.keep (ext_refl _) (fun _ _ _ => trivial), HLX.out, HX2.out⟩
    | cons x r =>
      have hpos : (0 : Int) < ((x :: r).length : Int) := by simp
      have HRW := hid (row_any (x :: r) R (x :: r).length rc wr rfl (HR.out.keep HX.out) (by simp) (by have := HO.out; omega))
      obtain ⟨q, hq⟩ : ∃ q, q = (x :: r).length := ⟨_, rfl⟩
      obtain ⟨m, hm⟩ : ∃ m, m = Hyb.row (x :: r) := ⟨_, rfl⟩
      rw [← hq] at hpos hrc ⊢
      rw [← hm, ← hq] at HRW
      have HQ := hid hq
      have HM := hid hm
      have hml : (m : Int) ≤ (q : Int) := by rw [hm, hq]; exact Int.ofNat_le.2 (Hyb.row_le (x :: r))
      clear hq hm
      go_wp2_with fail
      refine Calls.mono HRW.out ?_
      rintro e w1 ⟨rfl, hx⟩
      have HS1 := hid (HS.out.keep hx)
      have HX1 := hid (HX.out.then hx)
      have HB1 := hid (Nat.le_trans HB.out hx.size)
      clear hx HS HX HB HRW
      by_cases h8 : 8 ≤ m
      · have h8I : (8 : Int) ≤ (m : Int) := by omega
        have HPR := hid (Hyb.parts_run o x r (by rw [← HM.out]; exact h8))
        have HPL := hid (show P.length ≤ 200 by have := HVL.out; rw [← HP.out, List.length_append] at this; omega)
        have HC := hid (shut_any w.heap.size _ _ _ P o w1 HS1.out (by omega) (by omega) (by omega) (by omega) (by omega) HB1.out (by have := HPL.out; omega) (by have := HO.out; omega))
        clear HS1 h8
        go_wp2_with fail
        refine Calls.mono HC.out ?_
        rintro e w2 ⟨rfl, hs, hb⟩
        have HX2 : Hid (Ext w w2) := hid (Below.trans HX1.out hb)
        have HB2 := hid (Nat.le_trans HB1.out hb.size)
        obtain ⟨vp, vo, xs, b1, b2, o1, o2, pv⟩ := hs
        obtain ⟨C, c, rfl, _⟩ := Rd.owned o1
        obtain ⟨rb, ro, rfl, rlt, rc1⟩ := HR.out.num0 (by simp)
        have dx := (HX2.out.cell (p := ⟨rb, ro, none⟩) rlt).trans (rc1 0 x rfl)
        have hc2 := b2.cell 0
        have hf2 := b2.frozen 0
        have HSL := fun wx : World => sl_from (P := Tryz.prog) (t := 58) (e := 34) (m := 1) Tryz.underlying58 (by kernel_rfl) (some ⟨rb, ro, none⟩) q rc .i64 m (by omega) wx
        have HRF := hid (HR.out.u64from m rc (by rw [← HQ.out]; exact hrc))
        obtain ⟨R2, hR2⟩ : ∃ R2, R2 = slF (some ⟨rb, ro, none⟩) m rc 1 := ⟨_, rfl⟩
        rw [← hR2] at HSL HRF
        have HPV := hid pv
        have HO1 := hid o1
        have HO2 := hid o2
        have HK1 := hid b1
        have HK2 := hid b2
        have HNB := hid (show (Value.slice C (P ++ Hyb.shut o).length c).ownBlock ≠ some (w.heap.size + 1) from fun e => by have := (o1.lt _ e).1; omega)
        have HNP := hid (show (Value.slice C (P ++ Hyb.shut o).length c).ownBlock ≠ some w.heap.size from fun e => by have := (o1.lt _ e).1; omega)
        have HNE := hid (own_ne o2 o1 (by decide))
        have HPQ := hid (show (P ++ Hyb.shut o).length ≤ 200 by have := HVL.out; rw [← HP.out, HPR.out, ← List.append_assoc, List.length_append] at this; omega)
        obtain ⟨np, hnp⟩ : ∃ np, np = (P ++ Hyb.shut o).length := ⟨_, rfl⟩
        rw [← hnp] at HO1 HNB HNP HNE HPV HPQ hc2 HK2
        have HNPE := hid hnp
        clear hb b1 b2 o1 o2 pv rc1 HC hR2 hnp
        go_wp2_with fail
        have hc2r := cell_regrown hc2
        have dxr := cell_regrown dx
        refine wp_region_late [8, 9] [] [(0, true), (1, true), (2, true), (3, true), (4, true), (5, true), (6, false), (7, false), (8, false), (9, false)] (by kernel_rfl) (by kernel_rfl) (fun _ _ _ _ _ h => h) (by kernel_rfl) (by rfl) ?_
        simp only [List.filterMap_cons, List.filterMap_nil, List.getElem?_toArray, List.getElem?_cons_zero, List.getElem?_cons_succ, Option.map_some, List.contains_cons, List.contains_nil, Nat.reduceBEq, Bool.or_false, Bool.or_true]
        repeat (refine wpL_val (by rfl) ?_; intro K hK; go_big_quiet_op; go_big_quiet_on)
        refine wpL_do (by rfl) ?_
        intro K hK
        go_simp
        have XD : Ext w2 w2.drew := Ext.draw (ext_refl w2)
        refine hK _ _ XD ?_
        clear K hK
        refine wpL_do (by rfl) ?_
        intro K hK
        go_simp
        have hXA : Ext w2 (w2.drew.alloc (.cells #[.iface 177 (.agg #[.int .u64 (x : Int), .int .i64 (m : Int)])] 144)) := Ext.new XD _
        refine hK _ _ hXA ?_
        clear K hK hc2r dxr
        refine wpL_late (by rfl) ?_
        intro K hK
        refine wp_app (.tmp 17) (.tmp 24) rowPt rfl _ np xs rfl (own_ext HO1.out hXA) _ 1 [.iface 177 (.agg #[.int .u64 (x : Int), .int .i64 (m : Int)])] rfl (Src.rd Tryz.underlying141 _ 1 1 _ rfl (rd_lit rfl rfl) (fun u hu => by rw [List.mem_singleton] at hu; subst hu; rfl) (fun h => by cases h)) (by have := HPQ.out; unfold maxLen; omega) (by have := HPQ.out; omega) (by have := HB2.out; simp; omega) ?_
        intro v3 w3 hown3 hgr3 hat3 hbel3
        refine hK _ _ ?_
        clear K hK
        obtain ⟨C3, c3, rfl, _⟩ := Rd.owned hown3
        have B13 := (blk_grown ((HK1.out.drew).alloc _) hgr3 HNB.out)
        have B23 := (blk_grown ((HK2.out.drew).alloc _) hgr3 HNP.out)
        have hc23 := B23.cell 0
        have hf23 := B23.frozen 0
        have HB13 := hid B13
        have HB23 := hid B23
        have HO3 := hid hown3
        have HG3 := hid hgr3
        have HA3 := hid hat3
        have HL3 := hid hbel3
        clear hown3 hgr3 hat3 hbel3 B13 B23 hc2 hf2 dx
        refine wpL_late (by rfl) ?_
        intro K hK
        go_simp
        refine hK _ _ ?_
        clear K hK
        refine wpL_nil ?_
        go_wp2
        go_roundw
        case rel =>
          have hsz : w2.heap.size < (w2.drew.alloc (.cells #[.iface 177 (.agg #[.int .u64 (x : Int), .int .i64 (m : Int)])] 144)).heap.size := by simp
          have P1 : PartsV w3 (fun b => w.heap.size + 1 + 1 ≤ b ∧ (Value.slice C3 (np + 1) c3).ownBlock ≠ some b ∧ vo.ownBlock ≠ some b) (P ++ Hyb.shut o) xs :=
            (HPV.out.keep (dead' := fun b => (w.heap.size + 1 + 1 ≤ b ∧ (Value.slice C np c).ownBlock ≠ some b ∧ vo.ownBlock ≠ some b) ∧ b < w2.heap.size) hXA (fun b hb h => ⟨h, hb⟩)).grown HG3.out (fun b h => h.1.2.1) (fun b _ h => by
              refine ⟨h.1.1, ?_, h.1.2.2⟩
              have h1 := h.1.2.1
              have h2 := h.2
              rcases HA3.out with e | e
              · rw [e]; exact h1
              · rw [e]; intro e2; injection e2 with e2; have h4 : w2.heap.size < b := by rw [← e2]; exact hsz
                omega)
          have P2 := P1.snoc (v := .iface 177 (.agg #[.int .u64 (x : Int), .int .i64 (m : Int)])) (q := .run x m) (by have := HO3.out.1; simp at this; rw [← HNPE.out]; omega) rfl
          refine ⟨(x :: r).drop m, R2, rc - m, P ++ Hyb.shut o ++ [.run x m], [], by rw [List.length_drop, ← HQ.out], by rw [List.length_drop, ← HQ.out]; omega, HRF, hid ⟨.slice C3 (np + 1) c3, vo, xs ++ [.iface 177 (.agg #[.int .u64 (x : Int), .int .i64 (m : Int)])], ?_, ?_, ?_, ?_, ?_⟩, ?_, ?_, ?_, ?_⟩
          · exact HB13.out.far (by simp) _
          · exact HB23.out.set 0 _
          · rw [List.length_append, ← HNPE.out]
            exact own_but HO3.out (but_put _ _ _) (by show w.heap.size < _; omega)
          · exact own_but (own_grown (own_ext HO2.out hXA) HG3.out (HNE.out.imp id Ne.symm)) (but_put _ _ _) (by show w.heap.size < _; omega)
          · refine P2.grown (but_put _ ⟨w.heap.size, 0, none⟩ _) (fun c hc e => ?_) (fun _ _ h => h)
            injection e with e; have := hc.1; simp only at e; omega
          · refine hid ?_
            rw [← HP.out, HPR.out, ← HM.out]
            simp
          · have := HO.out; exact hid (by rw [List.length_drop, List.length_nil]; omega)
          · exact hid (Below.setCell (Below.trans HX2.out (Below.trans (hXA.mono (by have := HB2.out; omega)) (HL3.out.mono (by omega)))) (Nat.le_refl _) _)
          · have h1 := HL3.out.size
            have h2 := HB2.out
            exact hid (by simp at h1 ⊢; omega)
        case measure => simp [sLen]; omega
      · have hp8 := HO.out
        obtain ⟨p, hp⟩ : ∃ p, p = min 8 q := ⟨_, rfl⟩
        have hpI : min (8 : Int) (q : Int) = (p : Int) := by omega
        have hpq : (p : Int) ≤ (q : Int) := by omega
        have hp64 : (p : Int) ≤ 8 := by omega
        have h8I : ¬ (8 : Int) ≤ (m : Int) := by omega
        have HPB := hid (Hyb.parts_blk o x r (by rw [← HM.out]; omega))
        have HTK := hid (show (x :: r).take 8 = (x :: r).take p by rw [hp, HQ.out]; exact (take_minl (x :: r) 8).symm)
        have HDR := hid (show (x :: r).drop 8 = (x :: r).drop p by rw [hp, HQ.out]; exact (drop_minl (x :: r) 8).symm)
        have HTL := hid (show ((x :: r).take p).length = p by rw [List.length_take, ← HQ.out]; omega)
        obtain ⟨vp, vo, xs, b1, b2, o1, o2, pv⟩ := HS1.out
        obtain ⟨C, c, rfl, _⟩ := Rd.owned o2
        have hc1 := b1.cell 0
        have hf1 := b1.frozen 0
        have HSL := fun wx : World => sl_from (P := Tryz.prog) (t := 58) (e := 34) (m := 1) Tryz.underlying58 (by kernel_rfl) R q rc .i64 p (by omega) wx
        have HST := fun wx : World => sl_to (P := Tryz.prog) (t := 58) (e := 34) (m := 1) Tryz.underlying58 (by kernel_rfl) R q rc .i64 p (by omega) wx
        have HRF := hid (HR.out.u64from p rc (by rw [← HQ.out]; exact hrc))
        have HRT := hid (show Rd w R (u64s ((x :: r).take p)) from by
          have h := HR.out
          rw [← List.take_append_drop p (x :: r), u64s_app] at h
          exact h.pre)
        have HRN := hid (fun h : R = none => show p = 0 from by
          have h2 := HR.out
          have : Rd w none (u64s (x :: r)) := by rw [← h]; exact h2
          obtain ⟨_, _, e, _⟩ := this (by simp [u64s])
          cases e)
        obtain ⟨R2, hR2⟩ : ∃ R2, R2 = slF R p rc 1 := ⟨_, rfl⟩
        rw [← hR2] at HSL HRF
        have HPV := hid pv
        have HO1 := hid o1
        have HO2 := hid o2
        have HK1 := hid b1
        have HK2 := hid b2
        have HNB := hid (show (Value.slice C o.length c).ownBlock ≠ some (w.heap.size + 1) from fun e => by have := (o2.lt _ e).1; omega)
        have HNP := hid (show (Value.slice C o.length c).ownBlock ≠ some w.heap.size from fun e => by have := (o2.lt _ e).1; omega)
        have HNE := hid (own_ne o1 o2 (by decide))
        obtain ⟨k, hk⟩ : ∃ k, k = o.length := ⟨_, rfl⟩
        rw [← hk] at HO2 HNB HNP HNE HPV hc1 HK1
        have HKE := hid hk
        have hkI : (k : Int) ≤ 64 := by omega
        clear b1 b2 o1 o2 pv hR2 hk HS1 h8 hp hp8
        go_wp2_with fail
        have hc1r := cell_regrown hc1
        refine wp_region_late [4, 5] [] [(0, true), (1, true), (2, true), (3, true), (4, false), (5, false)] (by kernel_rfl) (by kernel_rfl) (fun _ _ _ _ _ h => h) (by kernel_rfl) (by rfl) ?_
        simp only [List.filterMap_cons, List.filterMap_nil, List.getElem?_toArray, List.getElem?_cons_zero, List.getElem?_cons_succ, Option.map_some, List.contains_cons, List.contains_nil, Nat.reduceBEq, Bool.or_false, Bool.or_true]
        repeat (refine wpL_val (by rfl) ?_; intro K hK; go_big_quiet_op; go_big_quiet_on)
        have XD : Ext w1 w1.drew := Ext.draw (ext_refl w1)
        refine wpL_late (by rfl) ?_
        intro K hK
        refine wp_app (.tmp 29) (.tmp 32) rowBk rfl _ k (u64s o) rfl (own_ext HO2.out XD) _ p (u64s ((x :: r).take p)) rfl (Src.rd Tryz.underlying58 R p rc _ (by rw [u64s_len, HTL.out, Nat.mul_one]) (HRT.out.keep (HX1.out.then XD)) (u64s_one _) HRN.out) (by unfold maxLen; omega) (by omega) (by have := HB1.out; simp; omega) ?_
        intro v3 w3 hown3 hgr3 hat3 hbel3
        refine hK _ _ ?_
        clear K hK
        obtain ⟨C3, c3, rfl, _⟩ := Rd.owned hown3
        have B13 := (blk_grown (HK1.out.drew) hgr3 HNB.out)
        have B23 := (blk_grown (HK2.out.drew) hgr3 HNP.out)
        have hc13 := B13.cell 0
        have hf13 := B13.frozen 0
        have HB13 := hid B13
        have HB23 := hid B23
        have HO3 := hid hown3
        have HG3 := hid hgr3
        have HA3 := hid hat3
        have HL3 := hid hbel3
        clear hown3 hgr3 hat3 hbel3 B13 B23 hc1 hf1 hc1r
        refine wpL_late (by rfl) ?_
        intro K hK
        go_simp
        refine hK _ _ ?_
        clear K hK
        refine wpL_nil ?_
        go_wp2
        go_roundw
        case rel =>
          have P1 : PartsV w3 (fun b => w.heap.size + 1 + 1 ≤ b ∧ vp.ownBlock ≠ some b ∧ (Value.slice C3 (k + p) c3).ownBlock ≠ some b) P xs :=
            (HPV.out.keep (dead' := fun b => (w.heap.size + 1 + 1 ≤ b ∧ vp.ownBlock ≠ some b ∧ (Value.slice C k c).ownBlock ≠ some b) ∧ b < w1.heap.size) XD (fun b hb h => ⟨h, hb⟩)).grown HG3.out (fun b h => h.1.2.2) (fun b _ h => by
              refine ⟨h.1.1, h.1.2.1, ?_⟩
              have h1 := h.1.2.2
              have h2 := h.2
              rcases HA3.out with e | e
              · rw [e]; exact h1
              · rw [e]; intro e2; injection e2 with e2; have h4 : w1.heap.size = b := e2
                omega)
          refine ⟨(x :: r).drop p, R2, rc - p, P, o ++ (x :: r).take p, by rw [List.length_drop, ← HQ.out], by rw [List.length_drop, ← HQ.out]; omega, HRF, hid ⟨vp, .slice C3 (k + p) c3, xs, ?_, ?_, ?_, ?_, ?_⟩, ?_, ?_, ?_, ?_⟩
          · exact HB13.out.set 0 _
          · exact HB23.out.far (by simp) _
          · exact own_but (own_grown (own_ext HO1.out XD) HG3.out (HNE.out.imp id Ne.symm)) (but_put _ _ _) (by show w.heap.size + 1 < _; omega)
          · rw [List.length_append, HTL.out, ← HKE.out, u64s_app]
            exact own_but HO3.out (but_put _ _ _) (by show w.heap.size + 1 < _; omega)
          · refine P1.grown (but_put _ ⟨w.heap.size + 1, 0, none⟩ _) (fun c hc e => ?_) (fun _ _ h => h)
            injection e with e; have := hc.1; simp only at e; omega
          · refine hid ?_
            rw [← HP.out, HPB.out, HTK.out, HDR.out]
          · have := HO.out
            have h2 := HTL.out
            exact hid (by rw [List.length_drop, List.length_append, h2, ← HQ.out, ← HKE.out]; rw [← HQ.out, ← HKE.out] at this; omega)
          · exact hid (Below.setCell (Below.trans HX1.out (Below.trans (XD.mono (by have := HB1.out; omega)) (HL3.out.mono (by omega)))) (Nat.le_succ _) _)
          · have h1 := HL3.out.size
            have h2 := HB1.out
            exact hid (by simp at h1 ⊢; omega)
        case measure => simp [sLen]; omega
end Go.Proofs.YthgnipangcmanaaGreat
end
section
namespace Hy.Hyb
open Go
theorem drop_app' (a b : List UInt8) (k : Nat) (h : a.length = k) : (a ++ b).drop k = b := by subst h; simp
theorem take_app' (a b : List UInt8) (k : Nat) (h : a.length = k) : (a ++ b).take k = a := by subst h; simp
theorem rd_app (n : Nat) (t : List UInt8) (hn : n < 2 ^ 64) : Vary.rd (Vary.wr n ++ t) = (n, (Vary.wr n).length, 0) := by rw [Vary.rd_wr n t hn, Vary.wr_len]
theorem le_one (x w : Nat) (hx : x < 2 ^ w) : Bits.le (Bits.packed [x] w) = x := by
  rw [Bits.le_packed [x] w (by simpa using hx)]
  show x + 2 ^ w * 0 = x
  omega
theorem stp_run (w left x m : Nat) (t : List UInt8) (hw : w ≤ 64) (hx : x < 2 ^ w) (h1 : 1 ≤ m) (h2 : m ≤ left) (h64 : m ≤ 64) :
    stp w left (bytes w (.run x m) ++ t) = (0, List.replicate m x, (bytes w (.run x m)).length) := by
  have hr := rd_app (2 * m) (Bits.packed [x] w ++ t) (by omega)
  have hl : (Bits.packed [x] w).length = Bits.size 1 w := Bits.packed_len [x] w
  unfold stp
  rw [bytes_run, List.append_assoc, hr]
  simp only [drop_app' _ _ _ rfl]
  rw [take_app' _ _ _ hl, le_one x w hx]
  rw [if_neg (by omega), if_neg (by omega), if_pos (by omega), if_neg (by omega), if_neg (by rw [List.length_append, List.length_append, hl]; omega),
    if_neg (by rw [show (1 : Int) = (([x] : List Nat).length : Int) from rfl, Bits.chk_packed hw (by simp) (by simpa using hx)]; simp)]
  rw [Nat.mod_eq_of_lt hx, show 2 * m / 2 = m by omega, List.length_append, hl]
theorem stp_blk (w left : Nat) (l : List Nat) (t : List UInt8) (hw : w ≤ 64) (hl : ∀ x ∈ l, x < 2 ^ w) (h0 : l ≠ []) (h1 : l.length ≤ left) (h2 : l.length = left ∨ l.length % 8 = 0) (h64 : l.length ≤ 64) :
    stp w left (bytes w (.blk l) ++ t) = (0, l, (bytes w (.blk l)).length) := by
  obtain ⟨q, hq⟩ : ∃ q, q = (l.length + 7) / 8 := ⟨_, rfl⟩
  have hpl : (pad l).length = q * 8 := by rw [pad_len, hq]
  have hp := pad_lt l w hl
  have hpos : 1 ≤ q := by have := List.length_pos_iff.2 h0; omega
  have hn : 2 * (pad l).length / 8 + 1 = 2 * q + 1 := by rw [hpl]; omega
  have hr := rd_app (2 * q + 1) (Bits.packed (pad l) w ++ t) (by omega)
  have hsz : (Bits.packed (pad l) w).length = Bits.size (q * 8) w := by rw [Bits.packed_len, hpl]
  have hck := Bits.chk_packed (l := pad l) (w := w) hw (by rw [hpl]; omega) hp
  have hun := Bits.unp_packed (pad l) w hp
  rw [hpl] at hck hun
  unfold stp
  rw [bytes_blk, hn, List.append_assoc, hr]
  simp only [drop_app' _ _ _ rfl, show (2 * q + 1) / 2 = q by omega]
  rw [take_app' _ _ _ hsz, hun]
  have htk : (pad l).take left = l := by
    rcases h2 with h2 | h2
    · unfold pad; rw [← h2]; simp
    · rw [pad_full l h2]; exact List.take_of_length_le h1
  have hdr : ((pad l).drop left).all (· == 0) = true := by
    rw [List.all_eq_true]
    intro x hx
    rcases h2 with h2 | h2
    · unfold pad at hx
      rw [← h2, List.drop_left'] at hx
      · rw [List.eq_of_mem_replicate hx]; rfl
      · rfl
    · rw [pad_full l h2, List.drop_eq_nil_of_le h1] at hx; cases hx
  rw [if_neg (by omega), if_neg (by omega), if_neg (by omega), if_neg (by omega), if_neg (by rw [List.length_append, List.length_append, hsz]; omega), if_neg (by rw [hck]; simp), if_pos hdr, htk, List.length_append, hsz]
theorem rdF_end (w many f : Nat) (s : List UInt8) (o : List Nat) (h : many ≤ o.length) : rdF w many f s o = if s = [] then (o, 0) else ([], 1) := by
  cases f <;> rw [rdF, if_pos h]
theorem rdF_ok (w many f : Nat) (s : List UInt8) (o l : List Nat) (k : Nat) (h : o.length < many) (hs : stp w (many - o.length) s = (0, l, k)) : rdF w many (f + 1) s o = rdF w many f (s.drop k) (o ++ l) := by
  rw [rdF, if_neg (by omega), hs]; simp
theorem rdF_bad (w many f : Nat) (s : List UInt8) (o : List Nat) (h : o.length < many) (hs : (stp w (many - o.length) s).1 ≠ 0) : rdF w many (f + 1) s o = ([], (stp w (many - o.length) s).1) := by
  rw [rdF, if_neg (by omega), if_pos hs]
theorem rd_run (w many f x m : Nat) (t : List UInt8) (o : List Nat) (hw : w ≤ 64) (hx : x < 2 ^ w) (h1 : 1 ≤ m) (h2 : o.length + m ≤ many) (h64 : many ≤ 64) :
    rdF w many (f + 1) (bytes w (.run x m) ++ t) o = rdF w many f t (o ++ List.replicate m x) := by
  rw [rdF_ok w many f _ o _ _ (by omega) (stp_run w (many - o.length) x m t hw hx h1 (by omega) (by omega)), drop_app' _ _ _ rfl]
theorem rd_blk (w many f : Nat) (l : List Nat) (t : List UInt8) (o : List Nat) (hw : w ≤ 64) (hl : ∀ x ∈ l, x < 2 ^ w) (h0 : l ≠ []) (h1 : o.length + l.length ≤ many) (h2 : o.length + l.length = many ∨ l.length % 8 = 0) (h64 : many ≤ 64) :
    rdF w many (f + 1) (bytes w (.blk l) ++ t) o = rdF w many f t (o ++ l) := by
  have := List.length_pos_iff.2 h0
  rw [rdF_ok w many f _ o _ _ (by omega) (stp_blk w (many - o.length) l t hw hl h0 (by omega) (by omega) (by omega)), drop_app' _ _ _ rfl]
theorem rd_parts (w many : Nat) (hw : w ≤ 64) (h64 : many ≤ 64) : ∀ (n : Nat) (l o out : List Nat) (t : List UInt8) (f : Nat), l.length ≤ n → (∀ x ∈ o ++ l, x < 2 ^ w) → (o.length % 8 = 0 ∨ l = []) →
    out.length + o.length + l.length = many → o.length + l.length ≤ f → rdF w many f (flat w (parts o l) ++ t) out = if t = [] then (out ++ o ++ l, 0) else ([], 1) := by
  intro n
  induction n with
  | zero =>
    intro l o out t f hn hlt ho hm hf
    obtain rfl : l = [] := List.length_eq_zero_iff.1 (by omega)
    rw [parts_nil]
    by_cases h0 : o = []
    · subst h0
      rw [shut_nil, flat_nil, List.nil_append, rdF_end _ _ _ _ _ (by simp at hm; omega)]; simp
    · have := List.length_pos_iff.2 h0
      obtain ⟨g, rfl⟩ : ∃ g, f = g + 1 := ⟨f - 1, by simp at hf; omega⟩
      rw [shut_of o h0, flat_cons, flat_nil, List.append_nil, rd_blk w many g o t out hw (fun x hx => hlt x (by simp [hx])) h0 (by simp at hm; omega) (.inl (by simpa using hm)) h64,
        rdF_end _ _ _ _ _ (by simp at hm ⊢; omega)]; simp
  | succ n ih =>
    intro l o out t f hn hlt ho hm hf
    cases l with
    | nil => exact ih [] o out t f (by simp) hlt ho hm hf
    | cons x l =>
      have ho8 : o.length % 8 = 0 := by rcases ho with h | h; exact h; cases h
      by_cases h8 : 8 ≤ row (x :: l)
      · have hrl := row_le (x :: l)
        have hrp := row_pos x l
        have hrt := row_take x l
        have hxl : x < 2 ^ w := hlt x (by simp)
        have hcat : List.replicate (row (x :: l)) x ++ (x :: l).drop (row (x :: l)) = x :: l := by rw [← hrt, List.take_append_drop]
        have hdl : ((x :: l).drop (row (x :: l))).length = (x :: l).length - row (x :: l) := List.length_drop
        have hdlt : ∀ y ∈ [] ++ (x :: l).drop (row (x :: l)), y < 2 ^ w := fun y hy => hlt y (by
          have := List.mem_of_mem_drop (by simpa using hy : y ∈ (x :: l).drop (row (x :: l))); simp only [List.mem_append]; exact .inr this)
        rw [parts_run o x l h8]
        generalize row (x :: l) = m at *
        generalize (x :: l).drop m = r at *
        rw [← hcat] at hm ⊢
        have hlen : (x :: l).length = m + r.length := by rw [← hcat]; simp
        have key : ∀ (o2 : List Nat) (g : Nat), o2.length + m + r.length = many → m + r.length ≤ g → rdF w many g (flat w (.run x m :: parts [] r) ++ t) o2 = if t = [] then (o2 ++ (List.replicate m x ++ r), 0) else ([], 1) := by
          intro o2 g hg1 hg2
          obtain ⟨g, rfl⟩ : ∃ k, g = k + 1 := ⟨g - 1, by omega⟩
          rw [flat_cons, List.append_assoc, rd_run w many g x m _ o2 hw hxl (by omega) (by omega) h64, ih r [] (o2 ++ List.replicate m x) t g (by omega) hdlt (.inl rfl) (by simp; omega) (by simp; omega)]
          simp
        simp only [List.length_append, List.length_replicate] at hm
        by_cases h0 : o = []
        · subst h0
          rw [shut_nil, List.nil_append, key out f (by simp at hm; omega) (by rw [hlen] at hf; simp at hf; omega)]; simp
        · obtain ⟨g, rfl⟩ : ∃ k, f = k + 1 := ⟨f - 1, by have := List.length_pos_iff.2 h0; omega⟩
          have := List.length_pos_iff.2 h0
          rw [shut_of o h0, List.singleton_append, flat_cons, List.append_assoc, rd_blk w many g o _ out hw (fun y hy => hlt y (by simp [hy])) h0 (by omega) (.inr ho8) h64, key (out ++ o) g (by simp; omega) (by rw [hlen] at hf; omega)]
      · rw [parts_blk o x l (by omega), ih ((x :: l).drop 8) (o ++ (x :: l).take 8) out t f (by simp at hn ⊢; omega) (by rw [List.append_assoc, List.take_append_drop]; exact hlt) ?_ ?_ ?_]
        · rw [List.append_assoc, List.append_assoc, List.take_append_drop, List.append_assoc]
        · by_cases hs : (x :: l).length ≤ 8
          · right; exact List.drop_eq_nil_of_le hs
          · left; rw [List.length_append, List.length_take]; omega
        · have e := congrArg List.length (List.take_append_drop 8 (x :: l))
          simp only [List.length_append] at e ⊢; omega
        · have e := congrArg List.length (List.take_append_drop 8 (x :: l))
          simp only [List.length_append] at e ⊢; omega
theorem wr_len_small (n : Nat) (h : n < 128) : (Vary.wr n).length = 1 := by
  rw [Vary.wr_len, Vary.beh_of n 0 (by omega) (by omega) (.inl rfl) (by simpa using h)]
theorem wr_len_two (n : Nat) (h : n < 16384) : (Vary.wr n).length ≤ 2 := by
  rw [Vary.wr_len]; have := (Vary.beh_le n 1 (by omega) (by omega)).2 (by simpa using h); omega
theorem len_run (w x m : Nat) (h8 : 8 ≤ m) (h64 : m ≤ 64) (hw : w ≤ 64) : 8 * (bytes w (.run x m)).length ≤ m * w + 2 * m ∧ (bytes w (.run x m)).length ≤ 10 := by
  rw [bytes_run, List.length_append, Bits.packed_len]
  have h1 := wr_len_two (2 * m) (by omega)
  have h2 : m < 64 → (Vary.wr (2 * m)).length = 1 := fun h => wr_len_small (2 * m) (by omega)
  have h3 : 8 * w ≤ m * w := Nat.mul_le_mul_right w h8
  simp only [List.length_singleton, Bits.size, Nat.one_mul]
  refine ⟨?_, by omega⟩
  rcases Nat.lt_or_ge m 64 with h | h
  · rw [h2 h]; omega
  · omega
theorem len_blk (w : Nat) (l : List Nat) (h0 : l ≠ []) (h64 : l.length ≤ 64) (hw : w ≤ 64) :
    (l.length % 8 = 0 → 8 * (bytes w (.blk l)).length ≤ l.length * w + 2 * l.length) ∧ 8 * (bytes w (.blk l)).length ≤ l.length * w + 2 * l.length + 8 * w + 8 := by
  obtain ⟨q, hq⟩ : ∃ q, q = (l.length + 7) / 8 := ⟨_, rfl⟩
  have hpos := List.length_pos_iff.2 h0
  have hpl : (pad l).length = q * 8 := by rw [pad_len, hq]
  rw [bytes_blk, List.length_append, Bits.packed_len, hpl, show 2 * (q * 8) / 8 + 1 = 2 * q + 1 by omega, wr_len_small (2 * q + 1) (by omega)]
  have hs : Bits.size (q * 8) w = q * w := by
    unfold Bits.size
    rw [show q * 8 * w = q * w * 8 by rw [Nat.mul_assoc, Nat.mul_comm 8 w, ← Nat.mul_assoc]]; omega
  rw [hs]
  refine ⟨fun h8 => ?_, ?_⟩
  · have : l.length = q * 8 := by omega
    rw [this, Nat.mul_assoc, Nat.mul_comm 8 w, ← Nat.mul_assoc]; omega
  · have h1 : q * 8 ≤ l.length + 7 := by omega
    have h2 := Nat.mul_le_mul_right w h1
    rw [Nat.mul_assoc, Nat.mul_comm 8 w, ← Nat.mul_assoc, Nat.add_mul] at h2
    omega
theorem len_parts (w : Nat) (hw : w ≤ 64) : ∀ (n : Nat) (l o : List Nat), l.length ≤ n → o.length + l.length ≤ 64 → (o.length % 8 = 0 ∨ l = []) →
    8 * (flat w (parts o l)).length ≤ (o.length + l.length) * w + 2 * (o.length + l.length) + 8 * w + 8 := by
  intro n
  induction n with
  | zero =>
    intro l o hn h64 ho
    obtain rfl : l = [] := List.length_eq_zero_iff.1 (by omega)
    rw [parts_nil]
    by_cases h0 : o = []
    · subst h0; rw [shut_nil, flat_nil]; simp
    · rw [shut_of o h0, flat_cons, flat_nil, List.append_nil]
      have := (len_blk w o h0 (by simp at h64; exact h64) hw).2
      simpa using this
  | succ n ih =>
    intro l o hn h64 ho
    cases l with
    | nil => exact ih [] o (by simp) h64 ho
    | cons x l =>
      have ho8 : o.length % 8 = 0 := by rcases ho with h | h; exact h; cases h
      by_cases h8 : 8 ≤ row (x :: l)
      · have hrl := row_le (x :: l)
        have hdl : ((x :: l).drop (row (x :: l))).length = (x :: l).length - row (x :: l) := List.length_drop
        rw [parts_run o x l h8]
        generalize row (x :: l) = m at *
        generalize (x :: l).drop m = r at *
        have h1 := (len_run w x m h8 (by omega) hw).1
        have h2 := ih r [] (by omega) (by simp; omega) (.inl rfl)
        simp only [List.length_nil, Nat.zero_add] at h2
        rw [flat_app, flat_cons, List.length_append, List.length_append]
        have h3 : 8 * (flat w (shut o)).length ≤ o.length * w + 2 * o.length := by
          by_cases h0 : o = []
          · subst h0; rw [shut_nil, flat_nil]; simp
          · rw [shut_of o h0, flat_cons, flat_nil, List.append_nil]
            exact (len_blk w o h0 (by omega) hw).1 ho8
        have e : (x :: l).length = m + r.length := by omega
        rw [e, Nat.add_mul, Nat.add_mul]
        omega
      · rw [parts_blk o x l (by omega)]
        have e := congrArg List.length (List.take_append_drop 8 (x :: l))
        rw [List.length_append] at e
        have := ih ((x :: l).drop 8) (o ++ (x :: l).take 8) (by simp at hn ⊢; omega) (by rw [List.length_append]; omega) (by
          by_cases hs : (x :: l).length ≤ 8
          · right; exact List.drop_eq_nil_of_le hs
          · left; rw [List.length_append, List.length_take]; omega)
        rw [List.length_append, show o.length + ((x :: l).take 8).length + ((x :: l).drop 8).length = o.length + (x :: l).length by omega] at this
        exact this
theorem raw_len (l : List Nat) (w : Nat) (hw : w ≤ 64) (h64 : l.length ≤ 64) : (raw l w).length ≤ Bits.size l.length w + w + l.length / 4 + 2 := by
  have := len_parts w hw l.length l [] (Nat.le_refl _) (by simpa using h64) (.inl rfl)
  simp only [List.length_nil, Nat.zero_add] at this
  unfold raw Bits.size
  generalize l.length * w = e at *
  omega
/-! ### no beginning is read -/
theorem cut_part (w left n : Nat) (q : List UInt8) (k : Nat) (hn : n < 2 ^ 64) (h2 : 2 ≤ n)
    (hl : if n % 2 = 0 then n / 2 ≤ left ∧ q.length = Bits.size 1 w else n / 2 ≤ (left + 7) / 8 ∧ q.length = Bits.size (n / 2 * 8) w) (hk : k < (Vary.wr n ++ q).length) :
    (stp w left ((Vary.wr n ++ q).take k)).1 = 5 := by
  rcases Nat.lt_or_ge k (Vary.wr n).length with h | h
  · have hc := Vary.rd_cut n k hn h
    rw [List.take_append_of_le_length (Nat.le_of_lt h)]
    unfold stp
    rw [hc, if_pos (by simp)]
  · obtain ⟨j, rfl⟩ : ∃ j, k = (Vary.wr n).length + j := ⟨k - (Vary.wr n).length, by omega⟩
    rw [List.length_append] at hk
    have ht : (Vary.wr n ++ q).take ((Vary.wr n).length + j) = Vary.wr n ++ q.take j := by rw [List.take_append, List.take_of_length_le (by omega)]; simp
    rw [ht]
    have hr := rd_app n (q.take j) hn
    unfold stp
    rw [hr]
    rw [if_neg (by simp), if_neg (by simp only; omega)]
    have hs : (Vary.wr n ++ q.take j).length - (Vary.wr n).length = j := by simp; omega
    simp only [hs]
    split at hl
    · rename_i he
      rw [if_pos he, if_neg (by omega), if_pos (by omega)]
    · rename_i he
      rw [if_neg he, if_neg (by omega), if_pos (by omega)]
theorem cut_run (w left x m k : Nat) (h1 : 1 ≤ m) (h2 : m ≤ left) (h64 : m ≤ 64) (hk : k < (bytes w (.run x m)).length) : (stp w left ((bytes w (.run x m)).take k)).1 = 5 := by
  rw [bytes_run] at hk ⊢
  exact cut_part w left (2 * m) _ k (by omega) (by omega) (by rw [if_pos (by omega)]; exact ⟨by omega, Bits.packed_len [x] w⟩) hk
theorem cut_blk (w left : Nat) (l : List Nat) (k : Nat) (h0 : l ≠ []) (h1 : l.length ≤ left) (h64 : l.length ≤ 64) (hk : k < (bytes w (.blk l)).length) : (stp w left ((bytes w (.blk l)).take k)).1 = 5 := by
  rw [bytes_blk] at hk ⊢
  have hpl := pad_len l
  have := List.length_pos_iff.2 h0
  refine cut_part w left _ _ k (by omega) (by omega) ?_ hk
  rw [if_neg (by omega)]
  refine ⟨by omega, ?_⟩
  rw [Bits.packed_len, show (2 * (pad l).length / 8 + 1) / 2 * 8 = (pad l).length by omega]
theorem take_two (a b : List UInt8) (k : Nat) : (a ++ b).take k = if k < a.length then a.take k else a ++ b.take (k - a.length) := by
  split
  · rename_i h; rw [List.take_append_of_le_length (by omega)]
  · rename_i h; rw [List.take_append, List.take_of_length_le (by omega)]
theorem rd_cut (w many : Nat) (hw : w ≤ 64) (h64 : many ≤ 64) : ∀ (n : Nat) (l o out : List Nat) (f k : Nat), l.length ≤ n → (∀ x ∈ o ++ l, x < 2 ^ w) → (o.length % 8 = 0 ∨ l = []) →
    out.length + o.length + l.length = many → o.length + l.length ≤ f → k < (flat w (parts o l)).length → rdF w many f ((flat w (parts o l)).take k) out = ([], 5) := by
  intro n
  induction n with
  | zero =>
    intro l o out f k hn hlt ho hm hf hk
    obtain rfl : l = [] := List.length_eq_zero_iff.1 (by omega)
    rw [parts_nil] at hk ⊢
    by_cases h0 : o = []
    · subst h0; rw [shut_nil, flat_nil] at hk; simp at hk
    · have := List.length_pos_iff.2 h0
      obtain ⟨g, rfl⟩ : ∃ g, f = g + 1 := ⟨f - 1, by simp at hf; omega⟩
      rw [shut_of o h0, flat_cons, flat_nil, List.append_nil] at hk ⊢
      simp at hm
      have hc := cut_blk w (many - out.length) o k h0 (by omega) (by omega) hk
      rw [rdF_bad _ _ _ _ _ (by omega) (by rw [hc]; decide), hc]
  | succ n ih =>
    intro l o out f k hn hlt ho hm hf hk
    cases l with
    | nil => exact ih [] o out f k (by simp) hlt ho hm hf hk
    | cons x l =>
      have ho8 : o.length % 8 = 0 := by rcases ho with h | h; exact h; cases h
      by_cases h8 : 8 ≤ row (x :: l)
      · have hrl := row_le (x :: l)
        have hxl : x < 2 ^ w := hlt x (by simp)
        have hdl : ((x :: l).drop (row (x :: l))).length = (x :: l).length - row (x :: l) := List.length_drop
        have hdlt : ∀ y ∈ [] ++ (x :: l).drop (row (x :: l)), y < 2 ^ w := fun y hy => hlt y (by
          have := List.mem_of_mem_drop (by simpa using hy : y ∈ (x :: l).drop (row (x :: l))); simp only [List.mem_append]; exact .inr this)
        rw [parts_run o x l h8] at hk ⊢
        generalize row (x :: l) = m at *
        generalize (x :: l).drop m = r at *
        have hlen : (x :: l).length = m + r.length := by omega
        rw [hlen] at hm hf
        have key : ∀ (o2 : List Nat) (g j : Nat), o2.length + m + r.length = many → m + r.length ≤ g → j < (flat w (.run x m :: parts [] r)).length → rdF w many g ((flat w (.run x m :: parts [] r)).take j) o2 = ([], 5) := by
          intro o2 g j hg1 hg2 hj
          obtain ⟨g, rfl⟩ : ∃ k, g = k + 1 := ⟨g - 1, by omega⟩
          rw [flat_cons] at hj ⊢
          rw [take_two]
          split
          · rename_i h
            have hc := cut_run w (many - o2.length) x m j (by omega) (by omega) (by omega) h
            rw [rdF_bad _ _ _ _ _ (by omega) (by rw [hc]; decide), hc]
          · rename_i h
            rw [rd_run w many g x m _ o2 hw hxl (by omega) (by omega) h64]
            exact ih r [] (o2 ++ List.replicate m x) g _ (by omega) hdlt (.inl rfl) (by simp; omega) (by simp; omega) (by rw [List.length_append] at hj; omega)
        by_cases h0 : o = []
        · subst h0
          rw [shut_nil, List.nil_append] at hk ⊢
          exact key out f k (by simp at hm; omega) (by simp at hf; omega) hk
        · obtain ⟨g, rfl⟩ : ∃ k, f = k + 1 := ⟨f - 1, by have := List.length_pos_iff.2 h0; omega⟩
          have := List.length_pos_iff.2 h0
          rw [shut_of o h0, List.singleton_append, flat_cons] at hk ⊢
          rw [take_two]
          split
          · rename_i h
            have hc := cut_blk w (many - out.length) o k h0 (by omega) (by omega) h
            rw [rdF_bad _ _ _ _ _ (by omega) (by rw [hc]; decide), hc]
          · rename_i h
            rw [rd_blk w many g o _ out hw (fun y hy => hlt y (by simp [hy])) h0 (by omega) (.inr ho8) h64]
            exact key (out ++ o) g _ (by simp; omega) (by omega) (by rw [List.length_append] at hk; omega)
      · rw [parts_blk o x l (by omega)] at hk ⊢
        have e := congrArg List.length (List.take_append_drop 8 (x :: l))
        rw [List.length_append] at e
        exact ih ((x :: l).drop 8) (o ++ (x :: l).take 8) out f k (by simp at hn ⊢; omega) (by rw [List.append_assoc, List.take_append_drop]; exact hlt) (by
          by_cases hs : (x :: l).length ≤ 8
          · right; exact List.drop_eq_nil_of_le hs
          · left; rw [List.length_append, List.length_take]; omega) (by rw [List.length_append]; omega) (by rw [List.length_append]; omega) hk
end Hy.Hyb
end
section
namespace Hy.Hyb
open Go
@[irreducible] def wrt (l : List Nat) (w : Int) : List UInt8 × Nat := if (Bits.pk l w).2 ≠ 0 then ([], (Bits.pk l w).2) else (raw l w.toNat, 0)
theorem wrt_bad {l : List Nat} {w : Int} (h : (Bits.pk l w).2 ≠ 0) : wrt l w = ([], (Bits.pk l w).2) := by unfold wrt; rw [if_pos h]
theorem wrt_ok {l : List Nat} {w : Int} (h : (Bits.pk l w).2 = 0) : wrt l w = (raw l w.toNat, 0) := by unfold wrt; rw [if_neg (by omega)]
end Hy.Hyb
namespace Go.Proofs.YthgnipangcmanaaGreat
open Go.RowKit Hy
set_option maxRecDepth 100000 in
set_option maxHeartbeats 800000 in
theorem hyRaw_any (l : List Nat) (A : Option Addr) (n cap wd : Nat) (w : World) (hn : l.length = n) (hr : Rd w A (u64s l)) (hcap : n ≤ cap) (hnl : n ≤ 64) (hl : ∀ x ∈ l, x < 2 ^ wd) (hwd : wd ≤ 64) :
    Calls Tryz.prog 101 #[.slice A n cap, .int .i64 wd] w fun e w' => e = .returned (.string ⟨(Hyb.raw l wd).toArray⟩) ∧ Ext w w' := by
  have HC := hid (parts_any l A n cap w hn hr hcap hnl)
  have HOK := hid (Hyb.parts_ok wd 64 l.length l [] (Nat.le_refl _) (by simpa using hl) (by simp; omega))
  obtain ⟨V, hV⟩ : ∃ V, V = Hyb.raw l wd := ⟨_, rfl⟩
  have HL := hid (show V.length ≤ 600 by
    have := Hyb.raw_len l wd hwd (by omega)
    have h2 := Nat.mul_le_mul (show l.length ≤ 64 by omega) hwd
    rw [hV]; unfold Bits.size at this; omega)
  obtain ⟨P, hP⟩ : ∃ P, P = Hyb.parts [] l := ⟨_, rfl⟩
  have HF := hid (show Hyb.flat wd P = V by rw [hV, hP]; rfl)
  rw [← hV]
  rw [← hP] at HC HOK
  have HW := hid hwd
  have HPL := hid (show P.length ≤ 200 by rw [hP]; have := Hyb.parts_len l.length l [] (Nat.le_refl _); omega)
  clear hV hP hr hl hwd hn hnl
  go_enter Tryz.func101, Tryz.ntmps101
  go_wp2_with fail
  refine Calls.mono HC.out ?_
  rintro e w1 ⟨C, c, xs, rfl, hrd, hpv, hlx, hx⟩
  have HRD := hid hrd
  have HPV := hid hpv
  have HLX := hid hlx
  have HX := hid hx
  obtain ⟨m, hm⟩ : ∃ m, m = P.length := ⟨_, rfl⟩
  have HM := hid hm
  rw [← hm]
  have hmI : (m : Int) ≤ 200 := by have := HPL.out; omega
  clear hrd hpv hlx hx HC hm
  go_wp2
  go_loopw [5, 7, 11] (fun s _ i wr => ∃ (k : Nat) (S : ByteArray), k ≤ m ∧ i = .int .i64 k ∧ s = .string S ∧ Hid (S.data.toList ++ Hyb.flat wd (P.drop k) = V) ∧ Ext w1 wr) (fun _ _ i _ => m - (intOf i).toNat)
  case atStart => exact ⟨0, _, Nat.zero_le _, rfl, rfl, hid (by rw [List.drop_zero, HF.out]; rfl), ext_refl _⟩
  case round =>
    obtain ⟨k, S, hk, rfl, rfl, HS, X⟩ := hrel
    have hkI : (k : Int) ≤ (m : Int) := by omega
    by_cases hlt : k < m
    · have hltI : (k : Int) < (m : Int) := by omega
      obtain ⟨p, hp⟩ : ∃ p, P[k]? = some p := ⟨_, List.getElem?_eq_getElem (by rw [← HM.out]; exact hlt)⟩
      obtain ⟨v, hxv, hpart⟩ := HPV.out k p hp
      have hok := HOK.out p (List.mem_of_getElem? hp)
      have HD := hid (show Hyb.flat wd (P.drop k) = Hyb.bytes wd p ++ Hyb.flat wd (P.drop (k + 1)) from by
        obtain ⟨h1, rfl⟩ := List.getElem?_eq_some_iff.1 hp
        rw [List.drop_eq_getElem_cons h1, Hyb.flat_cons])
      have HSV : Hid (S.data.toList ++ Hyb.bytes wd p ++ Hyb.flat wd (P.drop (k + 1)) = V) := hid (by rw [← HS.out, HD.out, List.append_assoc])
      have hSl : S.data.toList.length + (Hyb.bytes wd p).length ≤ 600 := by
        have h1 := HL.out
        rw [← HSV.out, List.length_append, List.length_append] at h1; omega
      have hSs : S.size ≤ 600 := by have : S.data.toList.length = S.size := Array.length_toList; omega
      have hBs : (Hyb.bytes wd p).length ≤ 600 := by omega
      obtain ⟨cb, co, rfl, hcb, hcc⟩ := HRD.out (by rw [HLX.out, ← HM.out]; omega)
      have d0 := (X.cell (p := ⟨cb, co + k, none⟩) hcb).trans (hcc k v hxv)
      have HSI := hid (show ∀ B : ByteArray, B = ⟨(Hyb.bytes wd p).toArray⟩ → (S ++ B).data.toList ++ Hyb.flat wd (P.drop (k + 1)) = V from fun B hB => by
        subst hB; rw [← HSV.out]; simp)
      have hBz : (⟨(Hyb.bytes wd p).toArray⟩ : ByteArray).size ≤ 600 := by rw [str_size]; exact hBs
      cases p with
      | run x q =>
        obtain rfl := hpart
        have CR := fun wx : World => hid (runBytes_any x q wd wx hok.2.1 hok.2.2 hok.1 HW.out)
        obtain ⟨B, hB⟩ : ∃ B : ByteArray, B = ⟨(Hyb.bytes wd (.run x q)).toArray⟩ := ⟨_, rfl⟩
        rw [← hB] at CR hBz
        have HSJ := hid (HSI.out B hB)
        have HPO : Hid True := hid trivial
        clear hp hxv hok hB HSI hSl hBs hcc HS HD HSV
        go_wp2_with fail
        refine Calls.mono (CR _).out ?_
        rintro e w2 ⟨rfl, hx⟩
        have X2 := X.then hx
        clear hx
        go_wp2
        go_roundw
        case rel => exact ⟨k + 1, _, by omega, by go_num, rfl, HSJ, X2⟩
        case measure => simp [intOf]; omega
      | blk b =>
        obtain ⟨bb, bc, rfl, hbr, _, _⟩ := hpart
        have HBR := hid (hbr.keep X)
        have CR := hid (blkBytes_any b (some ⟨bb, 0, none⟩) b.length bc wd wr rfl HBR.out (List.length_pos_iff.2 hok.1) hok.2.1 hok.2.2 HW.out)
        obtain ⟨B, hB⟩ : ∃ B : ByteArray, B = ⟨(Hyb.bytes wd (.blk b)).toArray⟩ := ⟨_, rfl⟩
        rw [← hB] at CR hBz
        have HSJ := hid (HSI.out B hB)
        clear hp hxv hok hB HSI hSl hBs hcc HS HD HSV hbr
        go_wp2_with fail
        refine Calls.mono CR.out ?_
        rintro e w2 ⟨rfl, hx⟩
        have X2 := X.then hx
        clear hx
        go_wp2
        go_roundw
        case rel => exact ⟨k + 1, _, by omega, by go_num, rfl, HSJ, X2⟩
        case measure => simp [intOf]; omega
    · obtain rfl : k = m := by omega
      have HE := hid (show S = ⟨V.toArray⟩ from by
        have h1 := HS.out
        rw [HM.out, List.drop_length, Hyb.flat_nil, List.append_nil] at h1
        rw [← h1])
      go_wp2
      go_returns
      exact ⟨by rw [← HE.out]; rfl, HX.out.then X⟩
end Go.Proofs.YthgnipangcmanaaGreat
end
section
namespace Hy.Hyb
open Go
def chunk (r : List Nat) (k : Nat) : List Nat := r.take k ++ List.replicate (k - r.length) 0
theorem chunk_zero (r : List Nat) : chunk r 0 = [] := by simp [chunk]
theorem chunk_in (r : List Nat) (k x : Nat) (h : r[k]? = some x) : chunk r (k + 1) = chunk r k ++ [x] := by
  have hk := (List.getElem?_eq_some_iff.1 h).1
  unfold chunk
  rw [List.take_add_one, h, show k + 1 - r.length = 0 by omega, show k - r.length = 0 by omega]; simp
theorem chunk_out (r : List Nat) (k : Nat) (h : r.length ≤ k) : chunk r (k + 1) = chunk r k ++ [0] := by
  unfold chunk
  rw [List.take_of_length_le h, List.take_of_length_le (by omega), show k + 1 - r.length = k - r.length + 1 by omega, List.replicate_succ', List.append_assoc]
theorem chunk_len (r : List Nat) (k : Nat) : (chunk r k).length = k := by
  simp only [chunk, List.length_append, List.length_take, List.length_replicate]; omega
theorem chunk_pad (o r : List Nat) (ho : o.length % 8 = 0) (h0 : r ≠ []) : pad o ++ chunk r 8 = pad (o ++ r.take 8) := by
  have := List.length_pos_iff.2 h0
  rw [pad_full o ho]
  unfold chunk pad
  rw [List.length_append, List.length_take, show (o.length + min 8 r.length + 7) / 8 * 8 - (o.length + min 8 r.length) = 8 - r.length by omega, List.append_assoc]
def Open (l : List Nat) (at0 j : Nat) (B : List Nat) : Prop :=
  ∃ o, B = pad o ∧ parts [] (l.drop at0) = parts o (l.drop j) ∧ (o.length % 8 = 0 ∨ l.length ≤ j) ∧ (o = [] → j = at0) ∧ (∀ x ∈ o, x ∈ l) ∧ o.length ≤ l.length ∧ o.length + (l.drop j).length = (l.drop at0).length
theorem open_start (l : List Nat) (j : Nat) : Open l j j [] := ⟨[], by simp [pad], rfl, .inl rfl, fun _ => rfl, by simp, by simp, by simp⟩
theorem open_step {l : List Nat} {at0 j : Nat} {B : List Nat} (h : Open l at0 j B) (hj : j < l.length) (h8 : row (l.drop j) < 8) : Open l at0 (j + 8) (B ++ chunk (l.drop j) 8) := by
  obtain ⟨o, rfl, e, h1, h2, h3, h4, h5⟩ := h
  have hne : l.drop j ≠ [] := fun hh => by have := congrArg List.length hh; simp at this; omega
  have ho : o.length % 8 = 0 := h1.resolve_right (by omega)
  have htk : ((l.drop j).take 8).length = min 8 (l.length - j) := by simp
  have hdd : (l.drop j).drop 8 = l.drop (j + 8) := by rw [List.drop_drop]
  refine ⟨o ++ (l.drop j).take 8, chunk_pad o _ ho hne, ?_, ?_, ?_, ?_, ?_, ?_⟩
  · rw [e, ← hdd]
    cases hr : l.drop j with
    | nil => exact absurd hr hne
    | cons x r => rw [parts_blk o x r (by rw [← hr]; exact h8)]
  · rw [List.length_append, htk]; omega
  · intro hh; exact absurd (List.append_eq_nil_iff.1 hh).2 (fun hh => by have := congrArg List.length hh; rw [htk] at this; simp at this; omega)
  · intro x hx
    rcases List.mem_append.1 hx with hx | hx
    · exact h3 x hx
    · exact List.mem_of_mem_drop (List.mem_of_mem_take hx)
  · rw [List.length_append, htk]; simp only [List.length_drop] at h5; omega
  · rw [List.length_append, htk, List.length_drop]; simp only [List.length_drop] at h5 ⊢; omega
theorem open_len {l : List Nat} {at0 j : Nat} {B : List Nat} (h : Open l at0 j B) : B.length ≤ l.length + 7 ∧ B.length % 8 = 0 := by
  obtain ⟨o, rfl, _, _, _, _, h4, _⟩ := h
  rw [pad_len]; omega
theorem open_lt {l : List Nat} {at0 j : Nat} {B : List Nat} (h : Open l at0 j B) (k : Nat) (hl : ∀ x ∈ l, x < 2 ^ k) : ∀ x ∈ B, x < 2 ^ k := by
  obtain ⟨o, rfl, _, _, _, h3, _, _⟩ := h
  exact pad_lt o k (fun x hx => hl x (h3 x hx))
theorem open_end {l : List Nat} {at0 j w : Nat} {B : List Nat} (h : Open l at0 j B) (h0 : j ≠ at0) (hj : j < l.length → 8 ≤ row (l.drop j)) :
    flat w (parts [] (l.drop at0)) = Vary.wr (B.length / 8 * 2 + 1) ++ Bits.packed B w ++ flat w (parts [] (l.drop j)) := by
  obtain ⟨o, rfl, e, h1, h2, h3, h4, h5⟩ := h
  have ho : o ≠ [] := fun hh => h0 (h2 hh)
  rw [e, show (pad o).length / 8 * 2 + 1 = 2 * (pad o).length / 8 + 1 by rw [pad_len]; omega, ← bytes_blk]
  rcases Nat.lt_or_ge j l.length with hlt | hge
  · cases hr : l.drop j with
    | nil => have := congrArg List.length hr; simp at this; omega
    | cons x r =>
      have h8 := hj hlt
      rw [hr] at h8
      rw [parts_run o x r h8, parts_run [] x r h8, shut_of o ho, shut_nil, List.nil_append, List.singleton_append, flat_cons]
  · rw [List.drop_eq_nil_of_le hge, parts_nil, parts_nil, shut_of o ho, shut_nil, flat_cons]
theorem flat_run (l : List Nat) (j w x : Nat) (hx : l[j]? = some x) (h8 : 8 ≤ row (l.drop j)) :
    flat w (parts [] (l.drop j)) = Vary.wr (2 * row (l.drop j)) ++ Bits.packed [x] w ++ flat w (parts [] (l.drop (j + row (l.drop j)))) := by
  obtain ⟨hj, rfl⟩ := List.getElem?_eq_some_iff.1 hx
  have e := List.drop_eq_getElem_cons hj
  have hp := parts_run [] l[j] (l.drop (j + 1)) (by rw [← e]; exact h8)
  rw [← e, List.drop_drop, shut_nil, List.nil_append] at hp
  rw [hp, flat_cons, bytes_run]
end Hy.Hyb
end
section
namespace Hy.Bits
theorem chk_size {s : List UInt8} {many w : Nat} (h1 : w ≤ 64) (h2 : many ≤ 64) (h3 : s.length = size many w) : chk s many w = 0 ∨ chk s many w = 1 := by
  by_cases h : le s < 2 ^ (many * w)
  · exact .inl (chk_of h1 h2 h3 h)
  · exact .inr (chk_rest h1 h2 h)
end Hy.Bits
namespace Hy.Hyb
open Go
@[irreducible] def nmb (w many : Nat) (s : List UInt8) : List Nat × Nat × List UInt8 :=
  if s.length < Bits.size many w then ([], 5, s) else (Bits.up (s.take (Bits.size many w)) many w, Bits.chk (s.take (Bits.size many w)) many w, s.drop (Bits.size many w))
theorem nmb_none {w many : Nat} {s : List UInt8} (h : s.length < Bits.size many w) : nmb w many s = ([], 5, s) := by unfold nmb; rw [if_pos h]
theorem nmb_some {w many : Nat} {s : List UInt8} (h : ¬ s.length < Bits.size many w) : nmb w many s = (Bits.up (s.take (Bits.size many w)) many w, Bits.chk (s.take (Bits.size many w)) many w, s.drop (Bits.size many w)) := by unfold nmb; rw [if_neg h]
theorem nmb_len {w many : Nat} {s : List UInt8} (h : (nmb w many s).2.1 = 0) : (nmb w many s).1.length = many := by
  by_cases h1 : s.length < Bits.size many w
  · rw [nmb_none h1] at h; cases h
  · rw [nmb_some h1] at h ⊢
    rw [Bits.up_ok _ _ _ h, Bits.unp_len]; simp
theorem nmb_lt {w many : Nat} {s : List UInt8} : ∀ n ∈ (nmb w many s).1, n < 2 ^ w := by
  by_cases h1 : s.length < Bits.size many w
  · rw [nmb_none h1]; simp
  · rw [nmb_some h1]
    by_cases h : Bits.chk (s.take (Bits.size many w)) many w = 0
    · rw [Bits.up_ok _ _ _ h]; simpa using Bits.unp_lt (s.take (Bits.size many w)) many w
    · rw [Bits.up_bad _ _ _ h]; simp
section
variable {w left : Nat} {s : List UInt8} {n k e : Nat}
theorem stp_bad (h : Vary.rd s = (n, k, e)) (he : e ≠ 0) : stp w left s = (e, [], 0) := by
  unfold stp; rw [h]; rw [if_pos he]
theorem stp_low (h : Vary.rd s = (n, k, 0)) (hn : n < 2) : stp w left s = (1, [], 0) := by
  unfold stp; rw [h]; rw [if_neg (by simp), if_pos hn]
theorem stp_over (h : Vary.rd s = (n, k, 0)) (h2 : 2 ≤ n) (hm : if n % 2 = 0 then left < n / 2 else (left + 7) / 8 < n / 2) : stp w left s = (2, [], 0) := by
  unfold stp; rw [h]; rw [if_neg (by simp), if_neg (by simp only; omega)]
  by_cases h0 : n % 2 = 0
  · rw [if_pos h0] at hm; rw [if_pos h0, if_pos hm]
  · rw [if_neg h0] at hm; rw [if_neg h0, if_pos hm]
def each (n : Nat) : Nat := if n % 2 = 0 then 1 else n / 2 * 8
theorem stp_wrong (h : Vary.rd s = (n, k, 0)) (h2 : 2 ≤ n) (hm : ¬ if n % 2 = 0 then left < n / 2 else (left + 7) / 8 < n / 2) (hw : w ≤ 64) (hl : left ≤ 64)
    (he : (nmb w (each n) (s.drop k)).2.1 ≠ 0) : stp w left s = ((nmb w (each n) (s.drop k)).2.1, [], 0) := by
  unfold stp; rw [h]; rw [if_neg (by simp), if_neg (by simp only; omega)]
  simp only
  by_cases h0 : n % 2 = 0
  · rw [if_pos h0] at hm ⊢
    rw [if_neg hm]
    have e1 : each n = 1 := by unfold each; rw [if_pos h0]
    rw [e1] at he ⊢
    by_cases hs : (s.drop k).length < Bits.size 1 w
    · rw [nmb_none hs, if_pos (by rw [List.length_drop] at hs; omega)]
    · rw [nmb_some hs] at he ⊢
      have hc := Bits.chk_size (s := (s.drop k).take (Bits.size 1 w)) hw (by omega : 1 ≤ 64) (by rw [List.length_take]; omega)
      rw [if_neg (by rw [List.length_drop] at hs; omega), if_pos (c := Bits.chk ((s.drop k).take (Bits.size 1 w)) 1 w ≠ 0) he]
      rcases hc with hc | hc
      · exact absurd hc he
      · simp only; rw [hc]
  · rw [if_neg h0] at hm ⊢
    rw [if_neg hm]
    have e1 : each n = n / 2 * 8 := by unfold each; rw [if_neg h0]
    rw [e1] at he ⊢
    by_cases hs : (s.drop k).length < Bits.size (n / 2 * 8) w
    · rw [nmb_none hs, if_pos (by rw [List.length_drop] at hs; omega)]
    · rw [nmb_some hs] at he ⊢
      have hc := Bits.chk_size (s := (s.drop k).take (Bits.size (n / 2 * 8) w)) hw (by omega : n / 2 * 8 ≤ 64) (by rw [List.length_take]; omega)
      rw [if_neg (by rw [List.length_drop] at hs; omega), if_pos (c := Bits.chk ((s.drop k).take (Bits.size (n / 2 * 8) w)) (n / 2 * 8 : Nat) w ≠ 0) he]
      rcases hc with hc | hc
      · exact absurd hc he
      · simp only; rw [hc]
theorem stp_row (h : Vary.rd s = (n, k, 0)) (h2 : 2 ≤ n) (h0 : n % 2 = 0) (hm : ¬ left < n / 2) (he : (nmb w 1 (s.drop k)).2.1 = 0) :
    ∃ x, (nmb w 1 (s.drop k)).1 = [x] ∧ stp w left s = (0, List.replicate (n / 2) x, k + Bits.size 1 w) ∧ (nmb w 1 (s.drop k)).2.2 = s.drop (k + Bits.size 1 w) := by
  have hs : ¬ (s.drop k).length < Bits.size 1 w := fun hs => by rw [nmb_none hs] at he; cases he
  rw [nmb_some hs] at he ⊢
  refine ⟨Bits.le ((s.drop k).take (Bits.size 1 w)) % 2 ^ w, ?_, ?_, by rw [List.drop_drop]⟩
  · show Bits.up _ ((1 : Nat) : Int) _ = _
    rw [Bits.up_ok _ _ _ he, Bits.unp_eq]; simp
  · unfold stp; rw [h]; rw [if_neg (by simp), if_neg (by simp only; omega)]
    simp only
    rw [if_pos h0, if_neg hm, if_neg (by rw [List.length_drop] at hs; omega), if_neg (fun hc => hc he)]
theorem stp_blocks (h : Vary.rd s = (n, k, 0)) (h2 : 2 ≤ n) (h0 : n % 2 = 1) (hm : ¬ (left + 7) / 8 < n / 2) (he : (nmb w (n / 2 * 8) (s.drop k)).2.1 = 0) :
    stp w left s = (if ((nmb w (n / 2 * 8) (s.drop k)).1.drop left).all (· == 0) = true then (0, (nmb w (n / 2 * 8) (s.drop k)).1.take left, k + Bits.size (n / 2 * 8) w) else (1, [], 0)) ∧ (nmb w (n / 2 * 8) (s.drop k)).2.2 = s.drop (k + Bits.size (n / 2 * 8) w) := by
  have hs : ¬ (s.drop k).length < Bits.size (n / 2 * 8) w := fun hs => by rw [nmb_none hs] at he; cases he
  rw [nmb_some hs] at he ⊢
  refine ⟨?_, by rw [List.drop_drop]⟩
  simp only
  rw [Bits.up_ok _ _ _ he, Int.toNat_natCast, Int.toNat_natCast]
  unfold stp; rw [h]; rw [if_neg (by simp), if_neg (by simp only; omega)]
  simp only
  rw [if_neg (by omega : ¬ n % 2 = 0), if_neg hm, if_neg (by rw [List.length_drop] at hs; omega), if_neg (fun hc => hc he)]
end
@[irreducible] def rdl (s : List UInt8) (many w : Int) : List Nat × Nat :=
  if (w < 0 ∨ 64 < w) ∨ many < 0 then ([], 3) else if 64 < many then ([], 2) else rdF w.toNat many.toNat many.toNat s []
theorem rdl_range {s : List UInt8} {many w : Int} (h : (w < 0 ∨ 64 < w) ∨ many < 0) : rdl s many w = ([], 3) := by unfold rdl; rw [if_pos h]
theorem rdl_many {s : List UInt8} {many w : Int} (h : ¬ ((w < 0 ∨ 64 < w) ∨ many < 0)) (h2 : 64 < many) : rdl s many w = ([], 2) := by unfold rdl; rw [if_neg h, if_pos h2]
theorem rdl_in {s : List UInt8} {many w : Nat} (h : w ≤ 64) (h2 : many ≤ 64) : rdl s many w = rdF w many many s [] := by
  unfold rdl; rw [if_neg (by omega), if_neg (by omega), Int.toNat_natCast, Int.toNat_natCast]
theorem stp_len {w left : Nat} {s : List UInt8} (h : (stp w left s).1 = 0) (hl : 1 ≤ left) : 1 ≤ (stp w left s).2.1.length ∧ (stp w left s).2.1.length ≤ left := by
  unfold stp at h ⊢
  generalize Vary.rd s = r at *
  obtain ⟨n, k, e⟩ := r
  simp only at h ⊢
  split at h
  · rename_i h1; exact absurd h h1
  · rename_i h1
    rw [if_neg h1]
    split at h
    · cases h
    · rename_i h2
      rw [if_neg h2]
      split at h
      · rename_i h0
        rw [if_pos h0]
        split at h
        · cases h
        · rename_i h3
          rw [if_neg h3]
          split at h
          · cases h
          · rename_i h4
            rw [if_neg h4]
            split at h
            · cases h
            · rename_i h5
              rw [if_neg h5]
              simp only [List.length_replicate]; omega
      · rename_i h0
        rw [if_neg h0]
        split at h
        · cases h
        · rename_i h3
          rw [if_neg h3]
          split at h
          · cases h
          · rename_i h4
            rw [if_neg h4]
            split at h
            · cases h
            · rename_i h5
              rw [if_neg h5]
              split at h
              · rename_i h6
                rw [if_pos h6]
                simp only [List.length_take, Bits.unp_len]; omega
              · cases h
end Hy.Hyb
end
section
namespace Go.Proofs.YthgnipangcmanaaGreat
open Go.RowKit Hy
def HyRd (g : Nat) (w : World) (s : List UInt8) (wd want : Nat) (o : List Nat) (v : Value) : Prop :=
  Blk w g 158 #[.string ⟨s.toArray⟩, .int .i64 wd, .int .i64 want, v] ∧ w.ownsRow (g + 1) 34 1 v o.length (u64s o)
set_option maxHeartbeats 800000 in
theorem hyNumbers_any (s : List UInt8) (wd want many : Nat) (o : List Nat) (vo : Value) (g : Nat) (w : World) (h : HyRd g w s wd want o vo) (hm : many ≤ 64) (hwd : wd ≤ 64) :
    Calls Tryz.prog 179 #[.pointer (some ⟨g, 0, none⟩), .int .i64 many] w fun e w' => ∃ v, e = .returned (.tuple #[v, .int .i64 ((Hyb.nmb wd many s).2.1 : Nat)]) ∧
      w'.ownsRow w.heap.size 34 1 v (Hyb.nmb wd many s).1.length (u64s (Hyb.nmb wd many s).1) ∧ HyRd g w' (Hyb.nmb wd many s).2.2 wd want o vo ∧ But g w w' := by
  obtain ⟨hB, hO⟩ := h
  have HO := hid hO
  obtain ⟨XX, hXX⟩ : ∃ XX : ByteArray, XX = ⟨s.toArray⟩ := ⟨_, rfl⟩
  have hXs : XX.size = s.length := by rw [hXX, str_size]
  have HXd := hid (show XX.data.toList = s by rw [hXX])
  rw [← hXX] at hB
  have HXX := hid hXX
  have HB := hid hB
  have hc0 := hB.cell 0
  have hf0 := hB.frozen 0
  have hc1 := hB.cell 1
  obtain ⟨p, hp⟩ : ∃ p, p = many * wd := ⟨_, rfl⟩
  have hmul : (many : Int) * (wd : Int) = (p : Int) := by rw [hp]; simp
  have hpb : p ≤ 64 * 64 := by rw [hp]; exact Nat.mul_le_mul hm hwd
  have hpI : (p : Int) ≤ 4096 := by omega
  obtain ⟨z, hz⟩ : ∃ z, z = Bits.size many wd := ⟨_, rfl⟩
  have hz2 : z = (p + 7) / 8 := by rw [hz, hp]; rfl
  have hq1 : ((p : Int) + 7).tdiv 8 = (z : Int) := by rw [Int.tdiv_eq_ediv_of_nonneg (by omega)]; omega
  have hq2 : ((p : Int) + 7) / 8 = (z : Int) := by omega
  have hmI : (many : Int) ≤ 64 := by omega
  have hwI : (wd : Int) ≤ 64 := by omega
  by_cases hs : s.length < z
  · rw [Hyb.nmb_none (by rw [← hz]; exact hs)]
    have hsI : (XX.size : Int) < (z : Int) := by omega
    clear hB hO hXX hp hpb hz hz2 hs hm hwd
    go_enter Tryz.func179, Tryz.ntmps179
    go_wp2
    go_returns
    exact ⟨.slice none 0 0, rfl, World.ownsRow_nil _ _ _ _, ⟨by rw [← HXX.out]; exact HB.out, HO.out⟩, but_refl _ _⟩
  · rw [Hyb.nmb_some (by rw [← hz]; exact hs), ← hz]
    have hsI : (z : Int) ≤ (XX.size : Int) := by omega
    have i2 := fun wx : World => run_to (P := Tryz.prog) (w := wx) Tryz.underlying9 XX .i64 z (by omega)
    have i3 := fun wx : World => run_from (P := Tryz.prog) (w := wx) Tryz.underlying9 XX .i64 z (by omega)
    rw [HXd.out] at i2 i3
    obtain ⟨XT, hXT⟩ : ∃ XT : ByteArray, XT = ⟨(s.take z).toArray⟩ := ⟨_, rfl⟩
    obtain ⟨XD, hXD⟩ : ∃ XD : ByteArray, XD = ⟨(s.drop z).toArray⟩ := ⟨_, rfl⟩
    rw [← hXT] at i2
    rw [← hXD] at i3
    have HXD := hid hXD
    have CU := fun wx : World => hid (unpack_own XT many wd wx)
    rw [show XT.data.toList = s.take z from by rw [hXT]] at CU
    have HLT := hid hB.lt
    clear hB hO hXX hp hpb hz hz2 hs hm hwd hXT hXD
    go_enter Tryz.func179, Tryz.ntmps179
    have B1 := hid (HB.out.set 0 (.string XD))
    have hc1' := B1.out.cell 1
    go_wp2_with fail
    refine Calls.mono (CU _).out ?_
    rintro e w1 ⟨v, rfl, hown, hx⟩
    have HOW := hid hown
    have HX := hid hx
    clear hown hx
    go_wp2
    go_returns
    refine ⟨v, rfl, ?_, ⟨?_, ?_⟩, ?_⟩
    · have h1 := HOW.out
      rwa [show (w.setCell ⟨g, 0, none⟩ (.string XD)).heap.size = w.heap.size from by simp] at h1
    · rw [← HXD.out]
      exact (B1.out.keep HX.out).cast rfl
    · exact own_ext (own_but HO.out (but_put _ _ _) (Nat.lt_succ_self _)) HX.out
    · exact (but_put w ⟨g, 0, none⟩ _).ext HX.out
set_option maxRecDepth 100000 in
set_option maxHeartbeats 1600000 in
theorem hyRun_any (s : List UInt8) (wd want m x : Nat) (o : List Nat) (vo : Value) (g : Nat) (w : World) (h : HyRd g w s wd want o vo) (hm1 : 1 ≤ m) (hm : o.length + m ≤ 64) (hwd : wd ≤ 64)
    (hx1 : (Hyb.nmb wd 1 s).2.1 = 0 → (Hyb.nmb wd 1 s).1 = [x]) (hx : x < 18446744073709551616) :
    Calls Tryz.prog 178 #[.pointer (some ⟨g, 0, none⟩), .int .i64 m] w fun e w' => e = .returned (.int .i64 ((Hyb.nmb wd 1 s).2.1 : Nat)) ∧ Below g w w' ∧
      ((Hyb.nmb wd 1 s).2.1 = 0 → ∃ v, HyRd g w' (Hyb.nmb wd 1 s).2.2 wd want (o ++ List.replicate m x) v) := by
  have HC := hid (hyNumbers_any s wd want 1 o vo g w h (by omega) hwd)
  have HLT := hid h.1.lt
  have HVO := hid (fun k e => (h.2.lt k e).2)
  obtain ⟨l, er, r, hn⟩ : ∃ l er r, Hyb.nmb wd 1 s = (l, er, r) := ⟨_, _, _, rfl⟩
  rw [hn] at HC hx1 ⊢
  simp only at HC hx1 ⊢
  have hmI : (m : Int) ≤ 64 := by omega
  have hm1I : (1 : Int) ≤ (m : Int) := by omega
  have HM := hid hm
  have HXL := hid hx
  by_cases he : er = 0
  · subst he
    obtain rfl := hx1 rfl
    clear hn hx1 hwd hm1 h hm hx
    go_enter Tryz.func178, Tryz.ntmps178
    go_wp2_with fail
    refine Calls.mono HC.out ?_
    rintro e w1 ⟨v, rfl, hown, hst, hbut⟩
    obtain ⟨A, cap, rfl, hrd, hA, _⟩ := Rd.owned hown
    obtain ⟨b, ob, rfl, hblt, hbc⟩ := hrd.num0 (by simp)
    have hbw : w.heap.size ≤ b := by
      rcases hown.2 with ⟨e1, _⟩ | ⟨b', c', cur, e1, hb', _⟩
      · cases e1
      · injection e1 with e1 _ _
        injection e1 with e1
        injection e1 with e1
        omega
    have HRD := hid hrd
    have HST := hid hst
    have HBT := hid hbut
    have HBW := hid hbw
    have HNE := hid (show vo.ownBlock ≠ some b from fun e1 => by have := HVO.out b e1; omega)
    clear hrd hst hbut hbw hblt hbc hown hA
    go_wp2
    go_loopw [16] (fun c wr => ∃ (k : Nat) (v : Value), k ≤ m ∧ c = .int .i64 k ∧ HyRd g wr r wd want (o ++ List.replicate k x) v ∧ Hid (v.ownBlock ≠ some b) ∧ Hid (Rd wr (some ⟨b, ob, none⟩) (u64s [x])) ∧ Hid (Below g w wr)) (fun c _ => m - (intOf c).toNat)
    case atStart => exact ⟨0, vo, Nat.zero_le _, rfl, by rw [List.replicate_zero, List.append_nil]; exact HST.out, HNE, HRD, hid (HBT.out.below (Nat.le_refl _) (Nat.le_of_lt HLT.out))⟩
    case round =>
      obtain ⟨k, v, hk, rfl, ⟨hB, hO⟩, HN, HR, HX⟩ := hrel
      have HO := hid hO
      have HB := hid hB
      have hc3 := hB.cell 3
      have hf3 := hB.frozen 3
      by_cases hlt : k < m
      · have hltI : (k : Int) < (m : Int) := by omega
        obtain ⟨_, _, e0, hblt, hbc⟩ := HR.out.num0 (by simp)
        cases e0
        have dx := hbc 0 x rfl
        rw [Nat.add_zero] at dx
        have hol : (o ++ List.replicate k x).length ≤ 64 := by rw [List.length_append, List.length_replicate]; have := HM.out; omega
        have HWL := hid hB.lt
        have HWB := hid hblt
        obtain ⟨q, hq⟩ : ∃ q, q = o ++ List.replicate k x := ⟨_, rfl⟩
        rw [← hq] at HO hol
        have HQ := hid (show o ++ List.replicate (k + 1) x = q ++ [x] by rw [hq, List.replicate_succ', List.append_assoc])
        have HQL := hid hol
        have HNG := hid (show v.ownBlock ≠ some g from fun e1 => by have := (HO.out.lt g e1).1; omega)
        obtain ⟨A2, c2, rfl, _⟩ := Rd.owned HO.out
        clear hB hO hbc hq hol hblt
        go_wp2_with fail
        have hc3r := cell_regrown hc3
        have dxr := cell_regrown dx
        refine wp_region_late [9, 12] [0, 10, 11] [(0, true), (1, true), (2, true), (3, true), (4, true), (5, true), (6, true), (7, true), (8, false), (9, false), (10, true), (11, true), (12, false)] (by kernel_rfl) (by kernel_rfl) (fun _ _ _ _ _ h => h) (by kernel_rfl) (by rfl) ?_
        simp only [List.filterMap_cons, List.filterMap_nil, List.getElem?_toArray, List.getElem?_cons_zero, List.getElem?_cons_succ, Option.map_some, List.contains_cons, List.contains_nil, Nat.reduceBEq, Bool.or_false, Bool.or_true]
        repeat ((first | refine wpL_val (by rfl) ?_ | refine wpL_pure (by rfl) ?_); intro K hK; go_big_quiet_op; go_big_quiet_on)
        refine wpL_do (by rfl) ?_
        intro K hK
        go_simp
        have X1 : Ext wr (wr.drew.alloc (.cells #[.int .u64 (x : Int)] 34)) := Ext.new (Ext.draw (ext_refl wr)) _
        refine hK _ _ X1 ?_
        clear K hK
        refine wpL_late (by rfl) ?_
        intro K hK
        refine wp_app (.tmp 22) (.tmp 26) rowU64 rfl _ q.length (u64s q) rfl (own_ext HO.out X1) _ 1 (u64s [x]) rfl (Src.rd Tryz.underlying58 _ 1 1 _ rfl (rd_lit rfl rfl) (u64s_one _) (fun h => by cases h)) (by have := HQL.out; unfold maxLen; omega) (by have := HQL.out; omega) (by have := HWL.out; simp; omega) ?_
        intro v3 w3 hown3 hgr3 hat3 hbel3
        refine hK _ _ ?_
        clear K hK
        obtain ⟨C3, c3, rfl, _⟩ := Rd.owned hown3
        have B3 := blk_grown (HB.out.keep X1) hgr3 HNG.out
        have hc33 := B3.cell 3
        have hf33 := B3.frozen 3
        have HB3 := hid B3
        have HO3 := hid hown3
        have HG3 := hid hgr3
        have HA3 := hid hat3
        have HL3 := hid hbel3
        clear hown3 hgr3 hat3 hbel3 B3 hc3 hf3 hc3r dxr dx
        simp only [Act.put, List.setIfInBounds_toArray, List.set_cons_succ, List.set_cons_zero]
        repeat (refine wpL_pure (by rfl) ?_; intro K hK; go_big_quiet_op; go_big_quiet_on)
        refine wpL_late (by rfl) ?_
        intro K hK
        go_simp
        refine hK _ _ ?_
        clear K hK
        refine wpL_nil ?_
        go_wp2
        go_roundw
        case rel =>
          refine ⟨k + 1, .slice C3 (q.length + 1) c3, by omega, by go_num, ⟨?_, ?_⟩, hid ?_, hid ?_, hid ?_⟩
          · exact (HB3.out.set 3 _).cast rfl
          · rw [HQ.out, List.length_append, u64s_app]
            exact own_but HO3.out (but_put _ _ _) (Nat.lt_succ_self _)
          · rcases HA3.out with e | e
            · rw [e]; exact HN.out
            · rw [e]; intro e2; injection e2 with e2; simp at e2; have := HWB.out; omega
          · exact rd_grown (rd_grown (HR.out.keep X1) HG3.out HN.out) (but_put _ _ _) (by intro e2; injection e2 with e2; have := HBW.out; have := HLT.out; simp only at e2; omega)
          · exact Below.setCell (Below.trans HX.out (Below.trans (X1.mono (by have := HWL.out; omega)) (HL3.out.mono (by omega)))) (Nat.le_refl _) _
        case measure => simp [intOf]; omega
      · obtain rfl : k = m := by omega
        clear hB hO
        go_wp2
        go_returns
        exact ⟨rfl, HX.out, fun _ => ⟨v, HB.out, HO.out⟩⟩
  · have h3 : ((er : Int) != 0) = true := by rw [bne_iff_ne]; omega
    have h4 : ((er : Int) == 0) = false := by rw [beq_eq_false_iff_ne]; omega
    have HE := hid he
    clear hn hx1 hwd hm1 h hm hx he
    go_enter Tryz.func178, Tryz.ntmps178
    go_wp2_with fail
    refine Calls.mono HC.out ?_
    rintro e w1 ⟨v, rfl, hown, hst, hbut⟩
    have HBT := hid hbut
    clear hown hst hbut
    go_wp2
    go_returns
    exact ⟨rfl, HBT.out.below (Nat.le_refl _) (Nat.le_of_lt HLT.out), fun h => absurd h HE.out⟩
end Go.Proofs.YthgnipangcmanaaGreat
end
