/- Files: plain: when a file system is right; what is swept. No program in sight. -/
import Derived.Test.YtolhifnlahllnaaDoorFsf
import Derived.Test.YtolhifnlahllnaaDoorFsi
namespace Hy.Fs
open Go
theorem ba_eq {a b : ByteArray} (h : a.data.toList = b.data.toList) : a = b := ByteArray.ext (Array.ext' h)
/-- a name as a list -/
abbrev key (x : Ent) : Dct.T := x.1.data.toList
theorem mem_nms {l : List Ent} {s : Dct.T} : s ∈ nms l ↔ ∃ x ∈ l, key x = s := by unfold nms; rw [List.mem_map]
theorem nms_app (l m : List Ent) : nms (l ++ m) = nms l ++ nms m := by simp [nms]
theorem notUp_iff {pre : List Ent} (hp : (nms pre).Pairwise (· < ·)) (x : Ent) : notUp pre x = false ↔ ∀ y ∈ pre, key y < key x := by
  rcases List.eq_nil_or_concat pre with rfl | ⟨p, y, rfl⟩
  · simp [notUp]
  · rw [List.concat_eq_append] at hp ⊢
    have e : notUp (p ++ [y]) x = !decide (key y < key x) := by unfold notUp; rw [List.getLast?_append]; rfl
    rw [e, Bool.not_eq_false', decide_eq_true_iff]
    rw [nms_app, List.pairwise_append] at hp
    constructor
    · intro h z hz
      rw [List.mem_append, List.mem_singleton] at hz
      rcases hz with hz | rfl
      · exact Dct.lt_tr (hp.2.2 (key z) (mem_nms.2 ⟨z, hz, rfl⟩) (key y) (by simp [nms])) h
      · exact h
    · intro h; exact h y (by simp)
theorem nmd_iff {l : List Ent} {i : Int} : nmd l i = true ↔ i ∈ l.map (·.2) := by
  unfold nmd; rw [List.any_eq_true, List.mem_map]
  constructor
  · rintro ⟨x, hx, h⟩; exact ⟨x, hx, by simpa using h⟩
  · rintro ⟨x, hx, h⟩; exact ⟨x, hx, by simpa using h⟩
theorem nmd_false {l : List Ent} {i : Int} : nmd l i = false ↔ i ∉ l.map (·.2) := by rw [← nmd_iff, Bool.not_eq_true]
/-- a directory that is right -/
def Good (n : Int) (l : List Ent) : Prop := (∀ x ∈ l, Nm.nm (key x) = true ∧ 0 ≤ x.2 ∧ x.2 < n) ∧ (nms l).Pairwise (· < ·) ∧ (l.map (·.2)).Nodup
theorem dck_iff (n : Int) (l : List Ent) : ∀ pre : List Ent, (nms pre).Pairwise (· < ·) → (pre.map (·.2)).Nodup →
    (dck n pre l = 0 ↔ (∀ x ∈ l, Nm.nm (key x) = true ∧ 0 ≤ x.2 ∧ x.2 < n) ∧ (nms (pre ++ l)).Pairwise (· < ·) ∧ ((pre ++ l).map (·.2)).Nodup) := by
  induction l with
  | nil => intro pre hp hq; simp only [dck, List.append_nil]; exact ⟨fun _ => ⟨fun x hx => absurd hx (by simp), hp, hq⟩, fun _ => trivial⟩
  | cons x r ih =>
    intro pre hp hq
    simp only [dck]
    have hpx : ∀ (h : ∀ y ∈ pre, key y < key x), (nms (pre ++ [x])).Pairwise (· < ·) := fun h => by
      rw [nms_app, List.pairwise_append]
      refine ⟨hp, by simp [nms], fun a ha b hb => ?_⟩
      obtain ⟨y, hy, rfl⟩ := mem_nms.1 ha
      simp [nms] at hb; subst hb; exact h y hy
    have hqx : ∀ (h : x.2 ∉ pre.map (·.2)), ((pre ++ [x]).map (·.2)).Nodup := fun h => by
      rw [List.map_append, List.nodup_append]
      refine ⟨hq, by simp, fun a ha b hb => ?_⟩
      simp at hb; subst hb; intro e; subst e; exact h ha
    have happ : pre ++ x :: r = (pre ++ [x]) ++ r := by simp
    by_cases h1 : Nm.nm (key x) = true
    · rw [if_neg (by rw [h1]; decide)]
      cases h2 : notUp pre x
      · rw [if_neg (by decide)]
        have h2' := (notUp_iff hp x).1 h2
        by_cases h3 : x.2 < 0 ∨ n ≤ x.2
        · rw [if_pos h3]
          refine ⟨fun h => by omega, fun ⟨h, _⟩ => ?_⟩
          have := (h x (by simp)).2; omega
        · rw [if_neg h3]
          cases h4 : nmd pre x.2
          · rw [if_neg (by decide), ih _ (hpx h2') (hqx (nmd_false.1 h4)), ← happ]
            constructor
            · rintro ⟨ha, hb, hc⟩
              refine ⟨fun y hy => ?_, hb, hc⟩
              rcases List.mem_cons.1 hy with rfl | hy
              · exact ⟨h1, by omega, by omega⟩
              · exact ha y hy
            · rintro ⟨ha, hb, hc⟩; exact ⟨fun y hy => ha y (by simp [hy]), hb, hc⟩
          · rw [if_pos rfl]
            refine ⟨fun h => by omega, fun ⟨_, _, h⟩ => ?_⟩
            rw [happ, List.map_append, List.nodup_append, List.map_append, List.nodup_append] at h
            exact absurd rfl (h.1.2.2 _ (nmd_iff.1 h4) x.2 (by simp))
      · rw [if_pos rfl]
        refine ⟨fun h => by omega, fun ⟨_, h, _⟩ => ?_⟩
        rw [happ, nms_app, List.pairwise_append, nms_app, List.pairwise_append] at h
        have : notUp pre x = false := (notUp_iff hp x).2 fun y hy => h.1.2.2 _ (mem_nms.2 ⟨y, hy, rfl⟩) _ (by simp [nms])
        rw [this] at h2; cases h2
    · rw [if_pos (by simpa using h1)]
      refine ⟨fun h => by omega, fun ⟨h, _⟩ => absurd (h x (by simp)).1 h1⟩
theorem dir_iff {n : Int} {l : List Ent} : dirck n l = 0 ↔ Good n l := by
  unfold dirck Good
  have := dck_iff n l [] (by simp [nms]) (by simp)
  simpa using this
theorem dir_sorted {n : Int} {l : List Ent} (h : dirck n l = 0) : (nms l).Pairwise (· < ·) := (dir_iff.1 h).2.1
/-- a file system that is right -/
structure Ok (f : FSy) : Prop where
  few : f.1.length ≤ 24
  big : ∀ x ∈ f.1, big x = false
  dir : Good f.1.length f.2.1
  syn : Good f.1.length f.2.2
  all : ∀ i : Nat, i < f.1.length → (i : Int) ∈ f.2.1.map (·.2) ∨ (i : Int) ∈ f.2.2.map (·.2)
theorem ok_iff {f : FSy} : fsck f = 0 ↔ Ok f := by
  constructor
  · intro h
    obtain ⟨h1, h2, h3, h4, h5⟩ := fsck_zero h
    refine ⟨h1, fun x hx => ?_, dir_iff.1 h3, dir_iff.1 h4, fun i hi => ?_⟩
    · rw [List.any_eq_false] at h2; simpa using h2 x hx
    · have := h5 i hi
      unfold lone at this
      rw [Bool.not_eq_false', Bool.or_eq_true, nmd_iff, nmd_iff] at this
      exact this
  · rintro ⟨h1, h2, h3, h4, h5⟩
    refine fsck_ok (by omega) (by rw [List.any_eq_false]; exact fun x hx => by rw [h2 x hx]; decide) (dir_iff.2 h3) (dir_iff.2 h4) (fun i hi => ?_)
    unfold lone
    rw [Bool.not_eq_false', Bool.or_eq_true, nmd_iff, nmd_iff]
    exact h5 i hi
/-- nodes that are named, from the i-th on -/
def keep (a b : List Ent) (i : Nat) : List Nod → List Nod
  | [] => []
  | x :: r => if nmd a (i : Int) || nmd b (i : Int) then x :: keep a b (i + 1) r else keep a b (i + 1) r
/-- entries by the nodes that stay -/
def mov (a b : List Ent) (l : List Ent) : List Ent := l.map fun x => (x.1, ((Fs.few a b x.2.toNat : Nat) : Int))
/-- nodes that no list names go -/
@[irreducible] def swp (f : FSy) : FSy := (keep f.2.1 f.2.2 0 f.1, mov f.2.1 f.2.2 f.2.1, mov f.2.1 f.2.2 f.2.2)
theorem swp_eq (f : FSy) : swp f = (keep f.2.1 f.2.2 0 f.1, mov f.2.1 f.2.2 f.2.1, mov f.2.1 f.2.2 f.2.2) := by unfold swp; rfl
theorem keep_snoc (a b : List Ent) (l : List Nod) (x : Nod) : ∀ i : Nat, keep a b i (l ++ [x]) = keep a b i l ++ (if nmd a ((i + l.length : Nat) : Int) || nmd b ((i + l.length : Nat) : Int) then [x] else []) := by
  induction l with
  | nil => intro i; simp only [List.nil_append, keep, List.length_nil, Nat.add_zero]
  | cons y r ih =>
    intro i
    simp only [List.cons_append, keep, List.length_cons]
    rw [ih (i + 1), show i + 1 + r.length = i + (r.length + 1) by omega]
    split <;> simp
theorem few_zero (a b : List Ent) : Fs.few a b 0 = 0 := rfl
theorem few_mono (a b : List Ent) {i j : Nat} (h : i ≤ j) : Fs.few a b i ≤ Fs.few a b j := by
  induction j with
  | zero => rw [show i = 0 by omega]; exact Nat.le_refl _
  | succ j ih =>
    rcases Nat.eq_or_lt_of_le h with rfl | h
    · exact Nat.le_refl _
    · rw [few_succ]; exact Nat.le_trans (ih (by omega)) (Nat.le_add_right _ _)
theorem keep_take (a b : List Ent) (l : List Nod) : ∀ k, k ≤ l.length → (keep a b 0 (l.take k)).length = Fs.few a b k := by
  intro k
  induction k with
  | zero => intro _; simp [keep, few_zero]
  | succ k ih =>
    intro h
    rw [List.take_succ_eq_append_getElem (by omega), keep_snoc, List.length_append, ih (by omega), few_succ, List.length_take, Nat.zero_add, Nat.min_eq_left (by omega)]
    split <;> rfl
theorem keep_len (a b : List Ent) (l : List Nod) : (keep a b 0 l).length = Fs.few a b l.length := by
  have := keep_take a b l l.length (Nat.le_refl _)
  rwa [List.take_length] at this
theorem keep_app (a b : List Ent) (l m : List Nod) : ∀ i : Nat, keep a b i (l ++ m) = keep a b i l ++ keep a b (i + l.length) m := by
  induction l with
  | nil => intro i; simp [keep]
  | cons y r ih =>
    intro i
    simp only [List.cons_append, keep, List.length_cons]
    rw [ih (i + 1), show i + 1 + r.length = i + (r.length + 1) by omega]
    split <;> simp
theorem keep_at (a b : List Ent) (l : List Nod) (k : Nat) (h : k < l.length) (hn : (nmd a (k : Int) || nmd b (k : Int)) = true) : (keep a b 0 l)[Fs.few a b k]? = some l[k] := by
  have e : l = l.take k ++ (l[k] :: l.drop (k + 1)) := by rw [← List.drop_eq_getElem_cons h, List.take_append_drop]
  have e2 : ∀ (x : Nod) (r : List Nod), keep a b 0 (l.take k ++ x :: r) = keep a b 0 (l.take k) ++ (x :: keep a b (k + 1) r) := fun x r => by
    rw [keep_app]
    simp only [List.length_take, Nat.zero_add, Nat.min_eq_left (Nat.le_of_lt h), keep, hn, if_true]
  have e3 := e2 l[k] (l.drop (k + 1))
  rw [← e] at e3
  rw [e3, List.getElem?_append_right (by rw [keep_take a b l k (Nat.le_of_lt h)]; exact Nat.le_refl _), keep_take a b l k (Nat.le_of_lt h), Nat.sub_self]
  rfl
theorem keep_all (a b : List Ent) (l : List Nod) : ∀ i : Nat, (∀ k, k < l.length → (nmd a ((i + k : Nat) : Int) || nmd b ((i + k : Nat) : Int)) = true) → keep a b i l = l := by
  induction l with
  | nil => intro i _; rfl
  | cons x r ih =>
    intro i h
    simp only [keep]
    have h0 := h 0 (by simp)
    rw [Nat.add_zero] at h0
    rw [if_pos h0, ih (i + 1) (fun k hk => by have := h (k + 1) (by simp; omega); rwa [show i + (k + 1) = i + 1 + k by omega] at this)]
theorem few_all (a b : List Ent) (n : Nat) (h : ∀ k, k < n → (nmd a (k : Int) || nmd b (k : Int)) = true) : ∀ k, k ≤ n → Fs.few a b k = k := by
  intro k
  induction k with
  | zero => intro _; rfl
  | succ k ih => intro hk; rw [few_succ, ih (by omega), if_pos (h k (by omega))]
theorem keep_sub (a b : List Ent) (l : List Nod) : ∀ i : Nat, ∀ x ∈ keep a b i l, x ∈ l := by
  induction l with
  | nil => intro i x hx; exact hx
  | cons y r ih =>
    intro i x hx
    simp only [keep] at hx
    split at hx
    · rcases List.mem_cons.1 hx with rfl | hx
      · simp
      · exact List.mem_cons_of_mem _ (ih _ x hx)
    · exact List.mem_cons_of_mem _ (ih _ x hx)
theorem mov_nms (a b l : List Ent) : nms (mov a b l) = nms l := by unfold nms mov; rw [List.map_map]; rfl
theorem mov_len (a b l : List Ent) : (mov a b l).length = l.length := by simp [mov]
theorem few_lt (a b : List Ent) {i n : Nat} (h : i < n) (hn : (nmd a (i : Int) || nmd b (i : Int)) = true) : Fs.few a b i < Fs.few a b n := by
  have h1 := few_mono a b (show i + 1 ≤ n by omega)
  rw [few_succ, if_pos hn] at h1; omega
/-- nothing goes where all are named -/
theorem swp_id {f : FSy} (h : Ok f) : swp f = f := by
  have hn : ∀ k, k < f.1.length → (nmd f.2.1 (k : Int) || nmd f.2.2 (k : Int)) = true := fun k hk => by
    rw [Bool.or_eq_true, nmd_iff, nmd_iff]; exact h.all k hk
  have hm : ∀ l : List Ent, Good f.1.length l → mov f.2.1 f.2.2 l = l := fun l hl => by
    unfold mov
    conv => rhs; rw [← List.map_id l]
    refine List.map_congr_left fun x hx => ?_
    obtain ⟨_, h1, h2⟩ := hl.1 x hx
    rw [few_all _ _ f.1.length hn _ (by omega)]
    have : ((x.2.toNat : Nat) : Int) = x.2 := by omega
    rw [this]; rfl
  rw [swp_eq, hm _ h.dir, hm _ h.syn, keep_all _ _ _ 0 (fun k hk => by rw [Nat.zero_add]; exact hn k hk)]
theorem mov_nodup (a b l : List Ent) (n : Int) (hl : Good n l) (hs : ∀ x ∈ l, (nmd a x.2 || nmd b x.2) = true) : ((mov a b l).map (·.2)).Nodup := by
  have h2 := hl.2.2
  have hr := hl.1
  clear hl
  unfold mov
  rw [List.map_map]
  rw [List.nodup_iff_pairwise_ne, List.pairwise_map] at h2 ⊢
  refine List.Pairwise.imp_of_mem (fun {x y} hx hy hne => ?_) h2
  obtain ⟨_, hx1, _⟩ := hr x hx
  obtain ⟨_, hy1, _⟩ := hr y hy
  have sx := hs x hx
  have sy := hs y hy
  have ex : ((x.2.toNat : Nat) : Int) = x.2 := by omega
  have ey : ((y.2.toNat : Nat) : Int) = y.2 := by omega
  rw [← ex] at sx
  rw [← ey] at sy
  simp only [Function.comp_apply]
  rcases Nat.lt_or_ge x.2.toNat y.2.toNat with h | h
  · have := few_lt a b h sx; omega
  · have := few_lt a b (show y.2.toNat < x.2.toNat by omega) sy; omega
/-- what is swept is right -/
theorem swp_ok {f : FSy} (h1 : f.1.length ≤ 24) (h2 : ∀ x ∈ f.1, big x = false) (h3 : Good f.1.length f.2.1) (h4 : Good f.1.length f.2.2) : Ok (swp f) := by
  have hlen : (keep f.2.1 f.2.2 0 f.1).length = Fs.few f.2.1 f.2.2 f.1.length := keep_len _ _ _
  have hle := few_le f.2.1 f.2.2 f.1.length
  have hg : ∀ l, Good f.1.length l → (∀ x ∈ l, (nmd f.2.1 x.2 || nmd f.2.2 x.2) = true) → Good (Fs.few f.2.1 f.2.2 f.1.length : Nat) (mov f.2.1 f.2.2 l) := fun l hl hs => by
    refine ⟨fun y hy => ?_, by rw [mov_nms]; exact hl.2.1, mov_nodup _ _ _ _ hl hs⟩
    unfold mov at hy
    obtain ⟨x, hx, rfl⟩ := List.mem_map.1 hy
    obtain ⟨n1, n2, n3⟩ := hl.1 x hx
    refine ⟨n1, by simp only; omega, ?_⟩
    have sx := hs x hx
    have ex : ((x.2.toNat : Nat) : Int) = x.2 := by omega
    rw [← ex] at sx
    have := few_lt f.2.1 f.2.2 (show x.2.toNat < f.1.length by omega) sx
    simp only; omega
  have hs1 : ∀ x ∈ f.2.1, (nmd f.2.1 x.2 || nmd f.2.2 x.2) = true := fun x hx => by rw [Bool.or_eq_true, nmd_iff]; exact .inl (List.mem_map.2 ⟨x, hx, rfl⟩)
  have hs2 : ∀ x ∈ f.2.2, (nmd f.2.1 x.2 || nmd f.2.2 x.2) = true := fun x hx => by rw [Bool.or_eq_true, nmd_iff, nmd_iff]; exact .inr (List.mem_map.2 ⟨x, hx, rfl⟩)
  have key : ∀ (n i : Nat), i < Fs.few f.2.1 f.2.2 n → ∃ k, k < n ∧ (nmd f.2.1 (k : Int) || nmd f.2.2 (k : Int)) = true ∧ Fs.few f.2.1 f.2.2 k = i := by
    intro n
    induction n with
    | zero => intro i hi; rw [few_zero] at hi; omega
    | succ n ih =>
      intro i hi
      by_cases hlt : i < Fs.few f.2.1 f.2.2 n
      · obtain ⟨k, hk, hn, he⟩ := ih i hlt
        exact ⟨k, by omega, hn, he⟩
      · rw [few_succ] at hi
        by_cases hn : (nmd f.2.1 (n : Int) || nmd f.2.2 (n : Int)) = true
        · rw [if_pos hn] at hi
          exact ⟨n, by omega, hn, by omega⟩
        · rw [if_neg hn] at hi; omega
  rw [swp_eq]
  refine ⟨by rw [hlen]; omega, fun x hx => h2 x (keep_sub _ _ _ _ x hx), by rw [hlen]; exact hg _ h3 hs1, by rw [hlen]; exact hg _ h4 hs2, fun i hi => ?_⟩
  rw [hlen] at hi
  obtain ⟨k, hk, hn, rfl⟩ := key _ i hi
  rw [Bool.or_eq_true, nmd_iff, nmd_iff] at hn
  have hmv : ∀ l : List Ent, (k : Int) ∈ l.map (·.2) → ((Fs.few f.2.1 f.2.2 k : Nat) : Int) ∈ (mov f.2.1 f.2.2 l).map (·.2) := fun l hl => by
    obtain ⟨x, hx, hxk⟩ := List.mem_map.1 hl
    unfold mov
    rw [List.map_map]
    refine List.mem_map.2 ⟨x, hx, ?_⟩
    simp only [Function.comp_apply]
    rw [hxk, Int.toNat_natCast]
  exact hn.imp (hmv _) (hmv _)
end Hy.Fs
