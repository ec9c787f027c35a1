/- Hybrid: plain laws: what is written is read, no beginning of it, how many bytes it has. No program in sight. -/
import Derived.Test.YtdblegdbfdhepaaHyp
namespace Hy.Hyb
open Go
theorem drop_app' (a b : List UInt8) (k : Nat) (h : a.length = k) : (a ++ b).drop k = b := by subst h; simp
theorem take_app' (a b : List UInt8) (k : Nat) (h : a.length = k) : (a ++ b).take k = a := by subst h; simp
theorem rd_app (n : Nat) (t : List UInt8) (hn : n < 2 ^ 64) : Vary.rd (Vary.wr n ++ t) = (n, (Vary.wr n).length, 0) := by rw [Vary.rd_wr n t hn, Vary.wr_len]
theorem le_one (x w : Nat) (hx : x < 2 ^ w) : Bits.le (Bits.packed [x] w) = x := by
  rw [Bits.le_packed [x] w (by simpa using hx)]
  show x + 2 ^ w * 0 = x
  omega
theorem stp_run (w left x m : Nat) (t : List UInt8) (hw : w ≤ 64) (hx : x < 2 ^ w) (h1 : 1 ≤ m) (h2 : m ≤ left) (h64 : m ≤ 64) :
    stp w left (bytes w (.run x m) ++ t) = (0, List.replicate m x, (bytes w (.run x m)).length) := by
  have hr := rd_app (2 * m) (Bits.packed [x] w ++ t) (by omega)
  have hl : (Bits.packed [x] w).length = Bits.size 1 w := Bits.packed_len [x] w
  unfold stp
  rw [bytes_run, List.append_assoc, hr]
  simp only [drop_app' _ _ _ rfl]
  rw [take_app' _ _ _ hl, le_one x w hx]
  rw [if_neg (by omega), if_neg (by omega), if_pos (by omega), if_neg (by omega), if_neg (by rw [List.length_append, List.length_append, hl]; omega),
    if_neg (by rw [show (1 : Int) = (([x] : List Nat).length : Int) from rfl, Bits.chk_packed hw (by simp) (by simpa using hx)]; simp)]
  rw [Nat.mod_eq_of_lt hx, show 2 * m / 2 = m by omega, List.length_append, hl]
theorem stp_blk (w left : Nat) (l : List Nat) (t : List UInt8) (hw : w ≤ 64) (hl : ∀ x ∈ l, x < 2 ^ w) (h0 : l ≠ []) (h1 : l.length ≤ left) (h2 : l.length = left ∨ l.length % 8 = 0) (h64 : l.length ≤ 64) :
    stp w left (bytes w (.blk l) ++ t) = (0, l, (bytes w (.blk l)).length) := by
  obtain ⟨q, hq⟩ : ∃ q, q = (l.length + 7) / 8 := ⟨_, rfl⟩
  have hpl : (pad l).length = q * 8 := by rw [pad_len, hq]
  have hp := pad_lt l w hl
  have hpos : 1 ≤ q := by have := List.length_pos_iff.2 h0; omega
  have hn : 2 * (pad l).length / 8 + 1 = 2 * q + 1 := by rw [hpl]; omega
  have hr := rd_app (2 * q + 1) (Bits.packed (pad l) w ++ t) (by omega)
  have hsz : (Bits.packed (pad l) w).length = Bits.size (q * 8) w := by rw [Bits.packed_len, hpl]
  have hck := Bits.chk_packed (l := pad l) (w := w) hw (by rw [hpl]; omega) hp
  have hun := Bits.unp_packed (pad l) w hp
  rw [hpl] at hck hun
  unfold stp
  rw [bytes_blk, hn, List.append_assoc, hr]
  simp only [drop_app' _ _ _ rfl, show (2 * q + 1) / 2 = q by omega]
  rw [take_app' _ _ _ hsz, hun]
  have htk : (pad l).take left = l := by
    rcases h2 with h2 | h2
    · unfold pad; rw [← h2]; simp
    · rw [pad_full l h2]; exact List.take_of_length_le h1
  have hdr : ((pad l).drop left).all (· == 0) = true := by
    rw [List.all_eq_true]
    intro x hx
    rcases h2 with h2 | h2
    · unfold pad at hx
      rw [← h2, List.drop_left'] at hx
      · rw [List.eq_of_mem_replicate hx]; rfl
      · rfl
    · rw [pad_full l h2, List.drop_eq_nil_of_le h1] at hx; cases hx
  rw [if_neg (by omega), if_neg (by omega), if_neg (by omega), if_neg (by omega), if_neg (by rw [List.length_append, List.length_append, hsz]; omega), if_neg (by rw [hck]; simp), if_pos hdr, htk, List.length_append, hsz]
theorem rdF_end (w many f : Nat) (s : List UInt8) (o : List Nat) (h : many ≤ o.length) : rdF w many f s o = if s = [] then (o, 0) else ([], 1) := by
  cases f <;> rw [rdF, if_pos h]
theorem rdF_ok (w many f : Nat) (s : List UInt8) (o l : List Nat) (k : Nat) (h : o.length < many) (hs : stp w (many - o.length) s = (0, l, k)) : rdF w many (f + 1) s o = rdF w many f (s.drop k) (o ++ l) := by
  rw [rdF, if_neg (by omega), hs]; simp
theorem rdF_bad (w many f : Nat) (s : List UInt8) (o : List Nat) (h : o.length < many) (hs : (stp w (many - o.length) s).1 ≠ 0) : rdF w many (f + 1) s o = ([], (stp w (many - o.length) s).1) := by
  rw [rdF, if_neg (by omega), if_pos hs]
theorem rd_run (w many f x m : Nat) (t : List UInt8) (o : List Nat) (hw : w ≤ 64) (hx : x < 2 ^ w) (h1 : 1 ≤ m) (h2 : o.length + m ≤ many) (h64 : many ≤ 64) :
    rdF w many (f + 1) (bytes w (.run x m) ++ t) o = rdF w many f t (o ++ List.replicate m x) := by
  rw [rdF_ok w many f _ o _ _ (by omega) (stp_run w (many - o.length) x m t hw hx h1 (by omega) (by omega)), drop_app' _ _ _ rfl]
theorem rd_blk (w many f : Nat) (l : List Nat) (t : List UInt8) (o : List Nat) (hw : w ≤ 64) (hl : ∀ x ∈ l, x < 2 ^ w) (h0 : l ≠ []) (h1 : o.length + l.length ≤ many) (h2 : o.length + l.length = many ∨ l.length % 8 = 0) (h64 : many ≤ 64) :
    rdF w many (f + 1) (bytes w (.blk l) ++ t) o = rdF w many f t (o ++ l) := by
  have := List.length_pos_iff.2 h0
  rw [rdF_ok w many f _ o _ _ (by omega) (stp_blk w (many - o.length) l t hw hl h0 (by omega) (by omega) (by omega)), drop_app' _ _ _ rfl]
/-- what is written is read, whatever stands behind -/
theorem rd_parts (w many : Nat) (hw : w ≤ 64) (h64 : many ≤ 64) : ∀ (n : Nat) (l o out : List Nat) (t : List UInt8) (f : Nat), l.length ≤ n → (∀ x ∈ o ++ l, x < 2 ^ w) → (o.length % 8 = 0 ∨ l = []) →
    out.length + o.length + l.length = many → o.length + l.length ≤ f → rdF w many f (flat w (parts o l) ++ t) out = if t = [] then (out ++ o ++ l, 0) else ([], 1) := by
  intro n
  induction n with
  | zero =>
    intro l o out t f hn hlt ho hm hf
    obtain rfl : l = [] := List.length_eq_zero_iff.1 (by omega)
    rw [parts_nil]
    by_cases h0 : o = []
    · subst h0
      rw [shut_nil, flat_nil, List.nil_append, rdF_end _ _ _ _ _ (by simp at hm; omega)]; simp
    · have := List.length_pos_iff.2 h0
      obtain ⟨g, rfl⟩ : ∃ g, f = g + 1 := ⟨f - 1, by simp at hf; omega⟩
      rw [shut_of o h0, flat_cons, flat_nil, List.append_nil, rd_blk w many g o t out hw (fun x hx => hlt x (by simp [hx])) h0 (by simp at hm; omega) (.inl (by simpa using hm)) h64,
        rdF_end _ _ _ _ _ (by simp at hm ⊢; omega)]; simp
  | succ n ih =>
    intro l o out t f hn hlt ho hm hf
    cases l with
    | nil => exact ih [] o out t f (by simp) hlt ho hm hf
    | cons x l =>
      have ho8 : o.length % 8 = 0 := by rcases ho with h | h; exact h; cases h
      by_cases h8 : 8 ≤ row (x :: l)
      · have hrl := row_le (x :: l)
        have hrp := row_pos x l
        have hrt := row_take x l
        have hxl : x < 2 ^ w := hlt x (by simp)
        have hcat : List.replicate (row (x :: l)) x ++ (x :: l).drop (row (x :: l)) = x :: l := by rw [← hrt, List.take_append_drop]
        have hdl : ((x :: l).drop (row (x :: l))).length = (x :: l).length - row (x :: l) := List.length_drop
        have hdlt : ∀ y ∈ [] ++ (x :: l).drop (row (x :: l)), y < 2 ^ w := fun y hy => hlt y (by
          have := List.mem_of_mem_drop (by simpa using hy : y ∈ (x :: l).drop (row (x :: l))); simp only [List.mem_append]; exact .inr this)
        rw [parts_run o x l h8]
        generalize row (x :: l) = m at *
        generalize (x :: l).drop m = r at *
        rw [← hcat] at hm ⊢
        have hlen : (x :: l).length = m + r.length := by rw [← hcat]; simp
        have key : ∀ (o2 : List Nat) (g : Nat), o2.length + m + r.length = many → m + r.length ≤ g → rdF w many g (flat w (.run x m :: parts [] r) ++ t) o2 = if t = [] then (o2 ++ (List.replicate m x ++ r), 0) else ([], 1) := by
          intro o2 g hg1 hg2
          obtain ⟨g, rfl⟩ : ∃ k, g = k + 1 := ⟨g - 1, by omega⟩
          rw [flat_cons, List.append_assoc, rd_run w many g x m _ o2 hw hxl (by omega) (by omega) h64, ih r [] (o2 ++ List.replicate m x) t g (by omega) hdlt (.inl rfl) (by simp; omega) (by simp; omega)]
          simp
        simp only [List.length_append, List.length_replicate] at hm
        by_cases h0 : o = []
        · subst h0
          rw [shut_nil, List.nil_append, key out f (by simp at hm; omega) (by rw [hlen] at hf; simp at hf; omega)]; simp
        · obtain ⟨g, rfl⟩ : ∃ k, f = k + 1 := ⟨f - 1, by have := List.length_pos_iff.2 h0; omega⟩
          have := List.length_pos_iff.2 h0
          rw [shut_of o h0, List.singleton_append, flat_cons, List.append_assoc, rd_blk w many g o _ out hw (fun y hy => hlt y (by simp [hy])) h0 (by omega) (.inr ho8) h64, key (out ++ o) g (by simp; omega) (by rw [hlen] at hf; omega)]
      · rw [parts_blk o x l (by omega), ih ((x :: l).drop 8) (o ++ (x :: l).take 8) out t f (by simp at hn ⊢; omega) (by rw [List.append_assoc, List.take_append_drop]; exact hlt) ?_ ?_ ?_]
        · rw [List.append_assoc, List.append_assoc, List.take_append_drop, List.append_assoc]
        · by_cases hs : (x :: l).length ≤ 8
          · right; exact List.drop_eq_nil_of_le hs
          · left; rw [List.length_append, List.length_take]; omega
        · have e := congrArg List.length (List.take_append_drop 8 (x :: l))
          simp only [List.length_append] at e ⊢; omega
        · have e := congrArg List.length (List.take_append_drop 8 (x :: l))
          simp only [List.length_append] at e ⊢; omega
/-- no block has a run -/
theorem parts_plain : ∀ (n : Nat) (l o : List Nat), l.length ≤ n → (∀ i, i < l.length → row (l.drop i) < 8) → parts o l = shut (o ++ l) := by
  intro n
  induction n with
  | zero =>
    intro l o hn _
    obtain rfl : l = [] := List.length_eq_zero_iff.1 (by omega)
    rw [parts_nil, List.append_nil]
  | succ n ih =>
    intro l o hn h
    cases l with
    | nil => rw [parts_nil, List.append_nil]
    | cons x l =>
      rw [parts_blk o x l (h 0 (by simp)), ih _ _ (by simp at hn ⊢; omega) (fun i hi => by rw [List.drop_drop]; exact h (8 + i) (by simp at hi ⊢; omega)), List.append_assoc, List.take_append_drop]
/-- how many bytes, eight times -/
theorem wr_len_small (n : Nat) (h : n < 128) : (Vary.wr n).length = 1 := by
  rw [Vary.wr_len, Vary.beh_of n 0 (by omega) (by omega) (.inl rfl) (by simpa using h)]
theorem wr_len_two (n : Nat) (h : n < 16384) : (Vary.wr n).length ≤ 2 := by
  rw [Vary.wr_len]; have := (Vary.beh_le n 1 (by omega) (by omega)).2 (by simpa using h); omega
theorem len_run (w x m : Nat) (h8 : 8 ≤ m) (h64 : m ≤ 64) (hw : w ≤ 64) : 8 * (bytes w (.run x m)).length ≤ m * w + 2 * m ∧ (bytes w (.run x m)).length ≤ 10 := by
  rw [bytes_run, List.length_append, Bits.packed_len]
  have h1 := wr_len_two (2 * m) (by omega)
  have h2 : m < 64 → (Vary.wr (2 * m)).length = 1 := fun h => wr_len_small (2 * m) (by omega)
  have h3 : 8 * w ≤ m * w := Nat.mul_le_mul_right w h8
  simp only [List.length_singleton, Bits.size, Nat.one_mul]
  refine ⟨?_, by omega⟩
  rcases Nat.lt_or_ge m 64 with h | h
  · rw [h2 h]; omega
  · omega
theorem len_blk (w : Nat) (l : List Nat) (h0 : l ≠ []) (h64 : l.length ≤ 64) (hw : w ≤ 64) :
    (l.length % 8 = 0 → 8 * (bytes w (.blk l)).length ≤ l.length * w + 2 * l.length) ∧ 8 * (bytes w (.blk l)).length ≤ l.length * w + 2 * l.length + 8 * w + 8 := by
  obtain ⟨q, hq⟩ : ∃ q, q = (l.length + 7) / 8 := ⟨_, rfl⟩
  have hpos := List.length_pos_iff.2 h0
  have hpl : (pad l).length = q * 8 := by rw [pad_len, hq]
  rw [bytes_blk, List.length_append, Bits.packed_len, hpl, show 2 * (q * 8) / 8 + 1 = 2 * q + 1 by omega, wr_len_small (2 * q + 1) (by omega)]
  have hs : Bits.size (q * 8) w = q * w := by
    unfold Bits.size
    rw [show q * 8 * w = q * w * 8 by rw [Nat.mul_assoc, Nat.mul_comm 8 w, ← Nat.mul_assoc]]; omega
  rw [hs]
  refine ⟨fun h8 => ?_, ?_⟩
  · have : l.length = q * 8 := by omega
    rw [this, Nat.mul_assoc, Nat.mul_comm 8 w, ← Nat.mul_assoc]; omega
  · have h1 : q * 8 ≤ l.length + 7 := by omega
    have h2 := Nat.mul_le_mul_right w h1
    rw [Nat.mul_assoc, Nat.mul_comm 8 w, ← Nat.mul_assoc, Nat.add_mul] at h2
    omega
theorem len_parts (w : Nat) (hw : w ≤ 64) : ∀ (n : Nat) (l o : List Nat), l.length ≤ n → o.length + l.length ≤ 64 → (o.length % 8 = 0 ∨ l = []) →
    8 * (flat w (parts o l)).length ≤ (o.length + l.length) * w + 2 * (o.length + l.length) + 8 * w + 8 := by
  intro n
  induction n with
  | zero =>
    intro l o hn h64 ho
    obtain rfl : l = [] := List.length_eq_zero_iff.1 (by omega)
    rw [parts_nil]
    by_cases h0 : o = []
    · subst h0; rw [shut_nil, flat_nil]; simp
    · rw [shut_of o h0, flat_cons, flat_nil, List.append_nil]
      have := (len_blk w o h0 (by simp at h64; exact h64) hw).2
      simpa using this
  | succ n ih =>
    intro l o hn h64 ho
    cases l with
    | nil => exact ih [] o (by simp) h64 ho
    | cons x l =>
      have ho8 : o.length % 8 = 0 := by rcases ho with h | h; exact h; cases h
      by_cases h8 : 8 ≤ row (x :: l)
      · have hrl := row_le (x :: l)
        have hdl : ((x :: l).drop (row (x :: l))).length = (x :: l).length - row (x :: l) := List.length_drop
        rw [parts_run o x l h8]
        generalize row (x :: l) = m at *
        generalize (x :: l).drop m = r at *
        have h1 := (len_run w x m h8 (by omega) hw).1
        have h2 := ih r [] (by omega) (by simp; omega) (.inl rfl)
        simp only [List.length_nil, Nat.zero_add] at h2
        rw [flat_app, flat_cons, List.length_append, List.length_append]
        have h3 : 8 * (flat w (shut o)).length ≤ o.length * w + 2 * o.length := by
          by_cases h0 : o = []
          · subst h0; rw [shut_nil, flat_nil]; simp
          · rw [shut_of o h0, flat_cons, flat_nil, List.append_nil]
            exact (len_blk w o h0 (by omega) hw).1 ho8
        have e : (x :: l).length = m + r.length := by omega
        rw [e, Nat.add_mul, Nat.add_mul]
        omega
      · rw [parts_blk o x l (by omega)]
        have e := congrArg List.length (List.take_append_drop 8 (x :: l))
        rw [List.length_append] at e
        have := ih ((x :: l).drop 8) (o ++ (x :: l).take 8) (by simp at hn ⊢; omega) (by rw [List.length_append]; omega) (by
          by_cases hs : (x :: l).length ≤ 8
          · right; exact List.drop_eq_nil_of_le hs
          · left; rw [List.length_append, List.length_take]; omega)
        rw [List.length_append, show o.length + ((x :: l).take 8).length + ((x :: l).drop 8).length = o.length + (x :: l).length by omega] at this
        exact this
theorem raw_len (l : List Nat) (w : Nat) (hw : w ≤ 64) (h64 : l.length ≤ 64) : (raw l w).length ≤ Bits.size l.length w + w + l.length / 4 + 2 := by
  have := len_parts w hw l.length l [] (Nat.le_refl _) (by simpa using h64) (.inl rfl)
  simp only [List.length_nil, Nat.zero_add] at this
  unfold raw Bits.size
  generalize l.length * w = e at *
  omega
theorem raw_one (l : List Nat) (w : Nat) (hw : w ≤ 64) (h8 : 8 ≤ l.length) (h64 : l.length ≤ 64) (hall : row l = l.length) : (raw l w).length ≤ 10 := by
  unfold raw
  cases l with
  | nil => simp at h8
  | cons x l =>
    rw [parts_run [] x l (by omega), shut_nil, List.nil_append, hall, List.drop_length, parts_nil, shut_nil, flat_cons, flat_nil, List.append_nil]
    exact (len_run w x _ h8 h64 hw).2
/-! ### no beginning is read -/
theorem cut_part (w left n : Nat) (q : List UInt8) (k : Nat) (hn : n < 2 ^ 64) (h2 : 2 ≤ n)
    (hl : if n % 2 = 0 then n / 2 ≤ left ∧ q.length = Bits.size 1 w else n / 2 ≤ (left + 7) / 8 ∧ q.length = Bits.size (n / 2 * 8) w) (hk : k < (Vary.wr n ++ q).length) :
    (stp w left ((Vary.wr n ++ q).take k)).1 = 5 := by
  rcases Nat.lt_or_ge k (Vary.wr n).length with h | h
  · have hc := Vary.rd_cut n k hn h
    rw [List.take_append_of_le_length (Nat.le_of_lt h)]
    unfold stp
    rw [hc, if_pos (by simp)]
  · obtain ⟨j, rfl⟩ : ∃ j, k = (Vary.wr n).length + j := ⟨k - (Vary.wr n).length, by omega⟩
    rw [List.length_append] at hk
    have ht : (Vary.wr n ++ q).take ((Vary.wr n).length + j) = Vary.wr n ++ q.take j := by rw [List.take_append, List.take_of_length_le (by omega)]; simp
    rw [ht]
    have hr := rd_app n (q.take j) hn
    unfold stp
    rw [hr]
    rw [if_neg (by simp), if_neg (by simp only; omega)]
    have hs : (Vary.wr n ++ q.take j).length - (Vary.wr n).length = j := by simp; omega
    simp only [hs]
    split at hl
    · rename_i he
      rw [if_pos he, if_neg (by omega), if_pos (by omega)]
    · rename_i he
      rw [if_neg he, if_neg (by omega), if_pos (by omega)]
theorem cut_run (w left x m k : Nat) (h1 : 1 ≤ m) (h2 : m ≤ left) (h64 : m ≤ 64) (hk : k < (bytes w (.run x m)).length) : (stp w left ((bytes w (.run x m)).take k)).1 = 5 := by
  rw [bytes_run] at hk ⊢
  exact cut_part w left (2 * m) _ k (by omega) (by omega) (by rw [if_pos (by omega)]; exact ⟨by omega, Bits.packed_len [x] w⟩) hk
theorem cut_blk (w left : Nat) (l : List Nat) (k : Nat) (h0 : l ≠ []) (h1 : l.length ≤ left) (h64 : l.length ≤ 64) (hk : k < (bytes w (.blk l)).length) : (stp w left ((bytes w (.blk l)).take k)).1 = 5 := by
  rw [bytes_blk] at hk ⊢
  have hpl := pad_len l
  have := List.length_pos_iff.2 h0
  refine cut_part w left _ _ k (by omega) (by omega) ?_ hk
  rw [if_neg (by omega)]
  refine ⟨by omega, ?_⟩
  rw [Bits.packed_len, show (2 * (pad l).length / 8 + 1) / 2 * 8 = (pad l).length by omega]
theorem take_two (a b : List UInt8) (k : Nat) : (a ++ b).take k = if k < a.length then a.take k else a ++ b.take (k - a.length) := by
  split
  · rename_i h; rw [List.take_append_of_le_length (by omega)]
  · rename_i h; rw [List.take_append, List.take_of_length_le (by omega)]
theorem rd_cut (w many : Nat) (hw : w ≤ 64) (h64 : many ≤ 64) : ∀ (n : Nat) (l o out : List Nat) (f k : Nat), l.length ≤ n → (∀ x ∈ o ++ l, x < 2 ^ w) → (o.length % 8 = 0 ∨ l = []) →
    out.length + o.length + l.length = many → o.length + l.length ≤ f → k < (flat w (parts o l)).length → rdF w many f ((flat w (parts o l)).take k) out = ([], 5) := by
  intro n
  induction n with
  | zero =>
    intro l o out f k hn hlt ho hm hf hk
    obtain rfl : l = [] := List.length_eq_zero_iff.1 (by omega)
    rw [parts_nil] at hk ⊢
    by_cases h0 : o = []
    · subst h0; rw [shut_nil, flat_nil] at hk; simp at hk
    · have := List.length_pos_iff.2 h0
      obtain ⟨g, rfl⟩ : ∃ g, f = g + 1 := ⟨f - 1, by simp at hf; omega⟩
      rw [shut_of o h0, flat_cons, flat_nil, List.append_nil] at hk ⊢
      simp at hm
      have hc := cut_blk w (many - out.length) o k h0 (by omega) (by omega) hk
      rw [rdF_bad _ _ _ _ _ (by omega) (by rw [hc]; decide), hc]
  | succ n ih =>
    intro l o out f k hn hlt ho hm hf hk
    cases l with
    | nil => exact ih [] o out f k (by simp) hlt ho hm hf hk
    | cons x l =>
      have ho8 : o.length % 8 = 0 := by rcases ho with h | h; exact h; cases h
      by_cases h8 : 8 ≤ row (x :: l)
      · have hrl := row_le (x :: l)
        have hxl : x < 2 ^ w := hlt x (by simp)
        have hdl : ((x :: l).drop (row (x :: l))).length = (x :: l).length - row (x :: l) := List.length_drop
        have hdlt : ∀ y ∈ [] ++ (x :: l).drop (row (x :: l)), y < 2 ^ w := fun y hy => hlt y (by
          have := List.mem_of_mem_drop (by simpa using hy : y ∈ (x :: l).drop (row (x :: l))); simp only [List.mem_append]; exact .inr this)
        rw [parts_run o x l h8] at hk ⊢
        generalize row (x :: l) = m at *
        generalize (x :: l).drop m = r at *
        have hlen : (x :: l).length = m + r.length := by omega
        rw [hlen] at hm hf
        have key : ∀ (o2 : List Nat) (g j : Nat), o2.length + m + r.length = many → m + r.length ≤ g → j < (flat w (.run x m :: parts [] r)).length → rdF w many g ((flat w (.run x m :: parts [] r)).take j) o2 = ([], 5) := by
          intro o2 g j hg1 hg2 hj
          obtain ⟨g, rfl⟩ : ∃ k, g = k + 1 := ⟨g - 1, by omega⟩
          rw [flat_cons] at hj ⊢
          rw [take_two]
          split
          · rename_i h
            have hc := cut_run w (many - o2.length) x m j (by omega) (by omega) (by omega) h
            rw [rdF_bad _ _ _ _ _ (by omega) (by rw [hc]; decide), hc]
          · rename_i h
            rw [rd_run w many g x m _ o2 hw hxl (by omega) (by omega) h64]
            exact ih r [] (o2 ++ List.replicate m x) g _ (by omega) hdlt (.inl rfl) (by simp; omega) (by simp; omega) (by rw [List.length_append] at hj; omega)
        by_cases h0 : o = []
        · subst h0
          rw [shut_nil, List.nil_append] at hk ⊢
          exact key out f k (by simp at hm; omega) (by simp at hf; omega) hk
        · obtain ⟨g, rfl⟩ : ∃ k, f = k + 1 := ⟨f - 1, by have := List.length_pos_iff.2 h0; omega⟩
          have := List.length_pos_iff.2 h0
          rw [shut_of o h0, List.singleton_append, flat_cons] at hk ⊢
          rw [take_two]
          split
          · rename_i h
            have hc := cut_blk w (many - out.length) o k h0 (by omega) (by omega) h
            rw [rdF_bad _ _ _ _ _ (by omega) (by rw [hc]; decide), hc]
          · rename_i h
            rw [rd_blk w many g o _ out hw (fun y hy => hlt y (by simp [hy])) h0 (by omega) (.inr ho8) h64]
            exact key (out ++ o) g _ (by simp; omega) (by omega) (by rw [List.length_append] at hk; omega)
      · rw [parts_blk o x l (by omega)] at hk ⊢
        have e := congrArg List.length (List.take_append_drop 8 (x :: l))
        rw [List.length_append] at e
        exact ih ((x :: l).drop 8) (o ++ (x :: l).take 8) out f k (by simp at hn ⊢; omega) (by rw [List.append_assoc, List.take_append_drop]; exact hlt) (by
          by_cases hs : (x :: l).length ≤ 8
          · right; exact List.drop_eq_nil_of_le hs
          · left; rw [List.length_append, List.length_take]; omega) (by rw [List.length_append]; omega) (by rw [List.length_append]; omega) hk
end Hy.Hyb
