/- Conditions: De Morgan: plain laws. No program in sight. -/
import Derived.Test.YtpheegfanljeeaaQbc
namespace Hy.Cnd
theorem pk_code {ks : List Int} (t : Tm) : ∀ (o : Nat) (r : List Cnd), t.ok → (∀ c ∈ t.code, al ks c = 0) → pk ks o (t.code ++ r) = pk ks (o + 1) r := by
  induction t with
  | lf c =>
    intro o r hok hal
    have h := hal c (by simp [Tm.code])
    have hs : sz c.1 = 0 := hok
    simp only [Tm.code, List.cons_append, List.nil_append, pk]
    rw [if_neg (by omega), if_neg (by omega), hs]; rfl
  | nt c u ih =>
    intro o r hok hal
    have h := hal c (by simp [Tm.code])
    simp only [Tm.code, List.append_assoc]
    rw [ih o _ hok.2 (fun d hd => hal d (by simp [Tm.code, hd]))]
    have hs := hok.1
    simp only [List.cons_append, List.nil_append, pk]
    rw [if_neg (by omega), if_neg (by omega), hs]; rfl
  | jn c a b iha ihb =>
    intro o r hok hal
    have h := hal c (by simp [Tm.code])
    simp only [Tm.code, List.append_assoc]
    rw [iha o _ hok.2.1 (fun d hd => hal d (by simp [Tm.code, hd])), ihb (o + 1) _ hok.2.2 (fun d hd => hal d (by simp [Tm.code, hd]))]
    have hs := hok.1
    simp only [List.cons_append, List.nil_append, pk]
    rw [if_neg (by omega), if_neg (by omega), hs]; rfl
theorem chk_code {ks : List Int} {t : Tm} (hok : t.ok) (hal : ∀ c ∈ t.code, al ks c = 0) (h : t.code.length ≤ 16) : chk ks t.code = 0 := by
  unfold chk
  rw [if_neg (by omega)]
  have := pk_code (ks := ks) t 0 [] hok hal
  rw [List.append_nil] at this
  rw [this]; rfl
/-- a node that joins -/
def nd (op : Int) : Cnd := (op, 0, O)
theorem al_nd {ks : List Int} {op : Int} (h : op = 5 ∨ op = 6 ∨ op = 7) : al ks (nd op) = 0 := by
  rcases al_ways ks op 0 O with ⟨h1, _⟩ | ⟨h1, h2, _⟩ | ⟨h1, h2, _⟩ | ⟨_, h1, _⟩ | ⟨_, _, h1, _⟩ | ⟨_, _, _, h1⟩
  · omega
  · omega
  · omega
  · exact absurd rfl h1
  · exact absurd rfl h1
  · exact h1
theorem jn_morgan5 : ∀ x : Nat, x ≤ 2 → ∀ y : Nat, y ≤ 2 → jn 7 (jn 5 x y) (jn 5 x y) = jn 6 (jn 7 x x) (jn 7 y y) := by decide +kernel
theorem jn_morgan6 : ∀ x : Nat, x ≤ 2 → ∀ y : Nat, y ≤ 2 → jn 7 (jn 6 x y) (jn 6 x y) = jn 5 (jn 7 x x) (jn 7 y y) := by decide +kernel
theorem jn_twice : ∀ x : Nat, x ≤ 2 → jn 7 (jn 7 x x) (jn 7 x x) = x := by decide +kernel
theorem alls_morgan5 : ∀ x : Nat, x < 8 → ∀ y : Nat, y < 8 → alls 7 (alls 5 x y) (alls 5 x y) = alls 6 (alls 7 x x) (alls 7 y y) := by decide +kernel
theorem alls_morgan6 : ∀ x : Nat, x < 8 → ∀ y : Nat, y < 8 → alls 7 (alls 6 x y) (alls 6 x y) = alls 5 (alls 7 x x) (alls 7 y y) := by decide +kernel
theorem alls_twice : ∀ x : Nat, x < 8 → alls 7 (alls 7 x x) (alls 7 x x) = x := by decide +kernel
/-- two conditions that are right and come to the same -/
def same (ks : List Int) (a b : List Cnd) : Prop := chk ks a = 0 ∧ chk ks b = 0 ∧ (∀ row, val (askf row) jn a = val (askf row) jn b) ∧ (∀ S Fs, val (setf S Fs) alls a = val (setf S Fs) alls b)
theorem same_ask {ks : List Int} {a b : List Cnd} (h : same ks a b) (row : List Cel) : ask ks a row = ask ks b row := by
  by_cases h1 : row.length = ks.length
  · by_cases h2 : rchk ks row = 0
    · rw [ask_ok h.1 h1 h2, ask_ok h.2.1 h1 h2, h.2.2.1]
    · rw [ask_row h.1 h1 h2, ask_row h.2.1 h1 h2]
  · rw [ask_len h.1 h1, ask_len h.2.1 h1]
theorem same_prn {ks : List Int} {a b : List Cnd} (h : same ks a b) (S : List Sta) (Fs : List Bloom.F) : prn ks a S Fs = prn ks b S Fs := by
  by_cases h1 : S.length = ks.length ∧ Fs.length = ks.length
  · by_cases h2 : schk ks S = 0
    · rw [prn_ok h.1 h1.1 h1.2 h2, prn_ok h.2.1 h1.1 h1.2 h2, h.2.2.2]
    · rw [prn_row h.1 h1.1 h1.2 h2, prn_row h.2.1 h1.1 h1.2 h2]
  · have h3 : S.length ≠ ks.length ∨ Fs.length ≠ ks.length := by omega
    rw [prn_len h.1 h3, prn_len h.2.1 h3]
theorem same_of {ks : List Int} {s t : Tm} (hs : s.ok) (ht : t.ok) (has : ∀ c ∈ s.code, al ks c = 0) (hat : ∀ c ∈ t.code, al ks c = 0) (h1 : s.code.length ≤ 16) (h2 : t.code.length ≤ 16)
    (h3 : ∀ row, s.ev (askf row) jn = t.ev (askf row) jn) (h4 : ∀ S Fs, s.ev (setf S Fs) alls = t.ev (setf S Fs) alls) : same ks s.code t.code :=
  ⟨chk_code hs has h1, chk_code ht hat h2, fun row => by rw [val_code _ _ s hs, val_code _ _ t ht, h3], fun S Fs => by rw [val_code _ _ s hs, val_code _ _ t ht, h4]⟩
theorem ev2 (row : List Cel) (t : Tm) : t.ev (askf row) jn ≤ 2 := ev_le (askf_le row) (fun _ _ _ hx hy => jn_le hx hy) t
theorem ev8 (S : List Sta) (Fs : List Bloom.F) (t : Tm) : t.ev (setf S Fs) alls < 8 := Nat.lt_succ_of_le (ev_le (B := 7) (setf_le S Fs) (fun op x y _ _ => Nat.lt_succ_iff.1 (alls_lt op x y)) t)
theorem morgan {ks : List Int} {p q : List Cnd} (hp : chk ks p = 0) (hq : chk ks q = 0) (h : p.length + q.length ≤ 13) :
    same ks (p ++ q ++ [nd 5, nd 7]) (p ++ [nd 7] ++ q ++ [nd 7] ++ [nd 6]) ∧ same ks (p ++ q ++ [nd 6, nd 7]) (p ++ [nd 7] ++ q ++ [nd 7] ++ [nd 5]) ∧ same ks (p ++ [nd 7, nd 7]) p := by
  have hap := chk_al hp
  have haq := chk_al hq
  obtain ⟨s, hs, rfl, _⟩ := right_tree hp
  obtain ⟨t, ht, rfl, _⟩ := right_tree hq
  have n5 := al_nd (ks := ks) (op := 5) (by omega)
  have n6 := al_nd (ks := ks) (op := 6) (by omega)
  have n7 := al_nd (ks := ks) (op := 7) (by omega)
  have htp := Tm.code_pos t
  refine ⟨?_, ?_, ?_⟩
  · have := same_of (ks := ks) (s := .nt (nd 7) (.jn (nd 5) s t)) (t := .jn (nd 6) (.nt (nd 7) s) (.nt (nd 7) t)) ⟨rfl, rfl, hs, ht⟩ ⟨rfl, ⟨rfl, hs⟩, rfl, ht⟩
      (fun c hc => by
        simp only [Tm.code, List.mem_append, List.mem_cons, List.not_mem_nil, or_false] at hc
        rcases hc with (hc | hc | rfl) | rfl; exact hap c hc; exact haq c hc; exact n5; exact n7)
      (fun c hc => by
        simp only [Tm.code, List.mem_append, List.mem_cons, List.not_mem_nil, or_false] at hc
        rcases hc with (hc | rfl) | (hc | rfl) | rfl; exact hap c hc; exact n7; exact haq c hc; exact n7; exact n6)
      (by simp [Tm.code]; omega) (by simp [Tm.code]; omega) (fun row => jn_morgan5 _ (ev2 row s) _ (ev2 row t)) (fun S Fs => alls_morgan5 _ (ev8 S Fs s) _ (ev8 S Fs t))
    simpa [Tm.code] using this
  · have := same_of (ks := ks) (s := .nt (nd 7) (.jn (nd 6) s t)) (t := .jn (nd 5) (.nt (nd 7) s) (.nt (nd 7) t)) ⟨rfl, rfl, hs, ht⟩ ⟨rfl, ⟨rfl, hs⟩, rfl, ht⟩
      (fun c hc => by
        simp only [Tm.code, List.mem_append, List.mem_cons, List.not_mem_nil, or_false] at hc
        rcases hc with (hc | hc | rfl) | rfl; exact hap c hc; exact haq c hc; exact n6; exact n7)
      (fun c hc => by
        simp only [Tm.code, List.mem_append, List.mem_cons, List.not_mem_nil, or_false] at hc
        rcases hc with (hc | rfl) | (hc | rfl) | rfl; exact hap c hc; exact n7; exact haq c hc; exact n7; exact n5)
      (by simp [Tm.code]; omega) (by simp [Tm.code]; omega) (fun row => jn_morgan6 _ (ev2 row s) _ (ev2 row t)) (fun S Fs => alls_morgan6 _ (ev8 S Fs s) _ (ev8 S Fs t))
    simpa [Tm.code] using this
  · have := same_of (ks := ks) (s := .nt (nd 7) (.nt (nd 7) s)) (t := s) ⟨rfl, rfl, hs⟩ hs
      (fun c hc => by
        simp only [Tm.code, List.mem_append, List.mem_cons, List.not_mem_nil, or_false] at hc
        rcases hc with (hc | rfl) | rfl; exact hap c hc; exact n7; exact n7)
      hap (by simp [Tm.code]; omega) (by omega) (fun row => jn_twice _ (ev2 row s)) (fun S Fs => alls_twice _ (ev8 S Fs s))
    simpa [Tm.code] using this
end Hy.Cnd
