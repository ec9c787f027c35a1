/- Runs: Raw: walk. -/
import Derived.Test.YtgobnpogmghgkaaRui
namespace Go.Proofs.Ytgobnpogmghgkaa
open Go.RowKit Hy Go.Shelf
attribute [local go_sem] Oper.semAt_some
def keepR (n₀ Bn : Nat) (A B : World) : Prop := Below n₀ A B ∧ ∀ v, Boxed A Bn 36 v → Boxed B Bn 36 v
theorem rows_in (n : Nat) (a : Option Addr) (len cap : Nat) (w : World) :
    CallsIn Fence.wide n Try.prog 53 #[.slice a len cap] w fun e w' => e = .returned (.func (.func 57) #[] #[.pointer (some ⟨w.heap.size, 0, none⟩)]) ∧ w' = w.alloc (.cells #[.slice a len cap] 36) := by
  refine callsIn_of_wp Try.func53 rfl trivial ?_ rfl
  simp only [Try.ntmps53, List.size_toArray, List.length_cons, List.length_nil, Nat.reduceAdd, Nat.reduceSub, Array.replicate_succ, Array.replicate_zero, List.push_toArray, List.append_toArray, List.nil_append, List.cons_append]
  gi_wp2
  go_ret
  exact ⟨rfl, rfl⟩
theorem rows_stops (n : Nat) (hn : 1 ≤ n) (Bn n₀ m cap : Nat) (A : Option Addr) (L : List Nat) (hm : L.length = m) (hmI : (m : Int) ≤ 1000000000000) (w : World) (hn₀ : n₀ ≤ w.heap.size)
    (hBn : Boxed w Bn 36 (.slice A m cap)) (hA : 0 < m → ∃ b o, A = some ⟨b, o, none⟩ ∧ b < n₀ ∧ ∀ j (hj : j < L.length), w.cell? ⟨b, o + j, none⟩ = some (.int .u64 ((L[j] : Nat) : Int))) :
    SeqStopsK Fence.wide n Try.prog 57 #[.pointer (some ⟨Bn, 0, none⟩)] encR (keepR n₀ Bn) (fun ys => ys = Runs.runs L) (fun pre => pre <+: Runs.runs L) (Runs.runs L).length w :=
  fun l J Jx W hW hJ _ hY h0 =>
    rows1_in n hn l Bn n₀ m cap W.heap.size A L hm hmI J Jx hJ hY W ((hW.block Bn hBn.lt).trans hBn) (fun h0 => by obtain ⟨b, o, e, hb, hc⟩ := hA h0; exact ⟨b, o, e, hb, fun j hj => (hW.cell (p := ⟨b, o + j, none⟩) (Nat.lt_of_lt_of_le hb hn₀)).trans (hc j hj)⟩) h0
theorem blk_own {β : Type} (B : Nat) (t : TypeId) (f : β → Array Value) : Own (fun s W => Blk W B t (f s)) := fun s X Y row hs hg hrow =>
  (hg.block B hs.lt (fun e' => by obtain ⟨o, ho, hc⟩ := hrow B e'.symm; rw [show X.heap[B]? = _ from hs] at ho; cases ho; cases hc)).trans hs
theorem cells_new (W : World) (e : TypeId) (C : Array Value) (cs : List Value) (h : C.toList = cs) : ∀ j u, cs[j]? = some u → (W.alloc (.cells C e)).cell? ((⟨W.heap.size, 0, none⟩ : Addr).add j) = some u := by
  intro j u hu
  rw [add_none, Nat.zero_add, (Blk.new W e C).cell, ← Array.getElem?_toList, h]; exact hu
theorem box_kept {W w1 : World} {n₀ B B' : Nat} {t e : TypeId} {size k : Nat} {v : Value} {xs : List Value} {tmp : Obj} (hte : t ≠ e) (hne : B ≠ B') (hrow : W.ownsRow n₀ e size v k xs) (hgrow : (W.alloc tmp).grownBy w1 v.ownBlock) :
    ∀ u, Boxed W B t u → ∀ z, Boxed (w1.setCell ⟨B', 0, none⟩ z) B t u := fun _ hu z => ((hu.alloc tmp).kept hgrow ((hu.alloc tmp).not_row hte (hrow.alloc tmp))).other hne z
set_option maxRecDepth 100000 in
set_option maxHeartbeats 2000000 in
theorem raw_in (m cap : Nat) (A : Option Addr) (L : List Nat) (hm : L.length = m) (hmI : (m : Int) ≤ 1000000000000) (w : World) (hr : Rd w A (u64s L)) :
    CallsIn Fence.wide 3 Try.prog 42 #[.slice A m cap] w fun e w' => ∃ B c, e = .returned (.slice B (Runs.runs L).length c) ∧ Rd w' B (rws (Runs.runs L)) ∧ Below w.heap.size w w' ∧ (B = none → (Runs.runs L).length = 0) ∧ (Runs.runs L).length ≤ c := by
  have rR := rowRn
  obtain ⟨hT, ⟨i0, z, hi, hz0, hz1, hz2, hz3⟩, hz4⟩ := rR
  have HM := hid hm
  have HRL := hid (Nat.le_trans (Runs.runs_len L) (Nat.le_of_eq hm))
  have HR := hid hr
  clear hm hr
  refine callsIn_of_wp_marks Try.func42 rfl trivial ?_ rfl
  simp only [Try.ntmps42, List.size_toArray, List.length_cons, List.length_nil, Nat.reduceAdd, Nat.reduceSub, Array.replicate_succ, Array.replicate_zero, List.push_toArray, List.append_toArray, List.nil_append, List.cons_append]
  gi_wp2_with (refine ⟨trivial, ?_⟩; gi_at_call 53; refine (rows_in _ _ _ _ _).mono ?_; rintro e w' ⟨rfl, rfl⟩)
  have bO := (Boxed.new w 37 (.slice none 0 0)).alloc (.cells #[.slice A m cap] 36)
  have bL := Boxed.new (w.alloc (.cells #[.slice none 0 0] 37)) 36 (.slice A m cap)
  simp only [World.size_alloc] at bL
  have hB0 : Below w.heap.size w ((w.alloc (.cells #[.slice none 0 0] 37)).alloc (.cells #[.slice A m cap] 36)) := ((Below.refl _ w).alloc (Nat.le_refl _) _).alloc (by simp) _
  have hsz : ((w.alloc (.cells #[.slice none 0 0] 37)).alloc (.cells #[.slice A m cap] 36)).heap.size = w.heap.size + 2 := by simp
  obtain ⟨W0, hW0⟩ : ∃ W0, (w.alloc (.cells #[.slice none 0 0] 37)).alloc (.cells #[.slice A m cap] 36) = W0 := ⟨_, rfl⟩
  rw [hW0] at bO bL hB0 hsz ⊢
  clear hW0
  refine wpIn_rangeFunc_ownH rfl (by omega) (gf := 57) (lb := #[.pointer (some ⟨w.heap.size + 1, 0, none⟩)]) rfl trivial (enters_of Try.func57 (by kernel_rfl) rfl)
    (rows_stops _ (by omega) (w.heap.size + 1) w.heap.size m cap A L HM.out hmI W0 (by omega) bL (fun h0 => by obtain ⟨b, o, e, hb, hc⟩ := HR.out.nums 0 (by rw [HM.out]; exact h0); exact ⟨b, o, e, hb, fun j hj => (hB0.cell (p := ⟨b, o + j, none⟩) hb).trans (hc j hj)⟩)) ?kt ?kb (Below.refl _ _) (fun _ => rfl)
    (fun pre W => ((∃ v, Boxed W w.heap.size 37 v ∧ W.ownsRow w.heap.size 54 2 v pre.length (rws pre) ∧ True) ∧ Boxed W (w.heap.size + 1) 36 (.slice A m cap)) ∧ Below w.heap.size w W)
    (fun _ _ _ => False)
    (OwnFrom.and (OwnFrom.and (Own.from (holdsRow_own w.heap.size w.heap.size 37 54 2 (fun pre => pre.length) (fun pre => rws pre) (fun _ _ => True)) _) (Own.from (boxed_own _ _ _) _)) (ownFrom_below (Nat.le_refl _) (by omega)))
    (fun _ _ _ _ _ hs _ _ => hs)
    ⟨⟨⟨_, bO, World.ownsRow_nil _ _ _ _, trivial⟩, bL⟩, hB0⟩
    (fun x a' W => ∃ Bx, w.heap.size + 1 < Bx ∧ Blk W Bx 54 #[.int .u64 (x.1 : Int), .int .i64 x.2] ∧ a' = { tmps := #[.slice A m cap, undef, .slice none 0 0, .pointer (some ⟨w.heap.size, 0, none⟩), .pointer (some ⟨Bx, 0, none⟩), .slice A m cap, .func (.func 57) #[] #[.pointer (some ⟨w.heap.size + 1, 0, none⟩)], .agg #[.int .u64 (x.1 : Int), .int .i64 x.2], undef, undef, undef, undef, undef], defers := [] })
    (fun x a' _ X Y row hs hg hr => by obtain ⟨Bx, h1, h2, h3⟩ := hs; exact ⟨Bx, h1, blk_own Bx 54 (fun (_ : Unit) => #[.int .u64 (x.1 : Int), .int .i64 x.2]) () X Y row h2 hg (fun r e => (hr r e).2), h3⟩)
    ?assign ?body ?done ?stop
  case kt => exact fun h k => ⟨h.1.trans k.1, fun v hv => k.2 v (h.2 v hv)⟩
  case kb => exact fun W l o o' hl h h1 h2 => ⟨belowK_b (by omega) W l o o' hl h h1 h2, fun v hv => hv.kept (grownBy_putObj' W l o') (fun e => by cases e; rw [show W.heap[w.heap.size + 1]? = _ from hv] at h; cases h; cases h1)⟩
  case assign =>
    rintro l pre x W K ⟨⟨⟨v, hv, hrow, _⟩, bL1⟩, hB1⟩ hK
    simp only [encR]
    gi_wp2
    exact hK _ _ ((KeepsOthers.alloc _ _).from _) ⟨(Below.refl _ W).alloc hB1.size _, fun v hv => hv.alloc _⟩ ⟨⟨⟨v, hv.alloc _, hrow.alloc _, trivial⟩, bL1.alloc _⟩, hB1.alloc hB1.size _⟩ ⟨W.heap.size, bL1.lt, Blk.new W _ _, rfl⟩
  case body =>
    rintro l pre x a' W hl ⟨r, hr⟩ ⟨⟨⟨v, hv, hrow, _⟩, bL1⟩, hB1⟩ ⟨Bx, hBx, bX, rfl⟩ hlt
    have cO := hv.cell
    have B0 := bX.cell 0
    have B1 := bX.cell 1
    simp only [List.getElem?_toArray, List.getElem?_cons_zero, List.getElem?_cons_succ] at B0 B1
    have hlen := HRL.out
    have hsB := hB1.size
    gi_wp2_with (gi_at_builtin; go_loud (refine wpListIn_append_own _ rfl _ _ 37 rfl w.heap.size 54 i0 z 2 16 hT hi hz0 hz1 hz2 hz3 (by decide) _ _ _ rfl (hrow.alloc _) ⟨W.heap.size, 0, none⟩ 1 1 (run2 x) rfl rfl (cells_new W _ _ _ rfl) (by simp [run2, Value.oneCell']) (by simp only [maxLen]; omega) (by omega) (by simp; omega) ?_; intro v' w1 hown' hgrow _; obtain ⟨g', cap', rfl⟩ := ownsRow_succ hown'; obtain ⟨hv1, hv2, hr2, hk2, hb2⟩ := hv.appended (by decide) hrow hB1.size (Nat.le_refl _) hown' hgrow; have hbk := box_kept (B := w.heap.size + 1) (B' := w.heap.size) (t := 36) (by decide) (by omega) hrow hgrow; have hc1 := hv1.cell; have hf1 := hv1.frozen))
    exact ⟨hk2.from _, ⟨hb2, fun u hu => hbk u hu _⟩, ⟨⟨_, hv2, by simpa [rws] using hr2, trivial⟩, hbk _ bL1 _⟩, hB1.trans hb2⟩
  case done =>
    rintro D ys W hD rfl ⟨⟨⟨v, hv, hrow, _⟩, bL1⟩, hB1⟩ hK
    have hc := hv.cell
    gi_wp2
    refine ⟨by simp, .inl ⟨_, _, rfl, run_takeDeferred hK, ?_⟩⟩
    obtain ⟨A, c, rfl, hrd, hnil, hcap, _⟩ := Rd.owned (ownsRow_putObj hrow _ hK rfl)
    exact ⟨_, results_tmp rfl _ _ _, A, c, rfl, hrd, hB1.trans (belowK_b (w := w) (Nat.le_refl _) W D _ _ (by omega) hK rfl rfl), hnil, hcap⟩
  case stop =>
    rintro D c pre W _ _ h _
    exact h.elim
theorem raw_any (m cap : Nat) (A : Option Addr) (L : List Nat) (hm : L.length = m) (hmI : (m : Int) ≤ 1000000000000) (w : World) (hr : Rd w A (u64s L)) :
    Calls Try.prog 42 #[.slice A m cap] w fun e w' => ∃ B c, e = .returned (.slice B (Runs.runs L).length c) ∧ Rd w' B (rws (Runs.runs L)) ∧ Ext w w' ∧ (B = none → (Runs.runs L).length = 0) ∧ (Runs.runs L).length ≤ c :=
  callsIn_wide.1 (raw_in m cap A L hm hmI w hr)
/-- Of -/
theorem of_any (m cap : Nat) (A : Option Addr) (L : List Nat) (hm : L.length = m) (hmI : (m : Int) ≤ 9223372036854775807) (w : World) (hr : Rd w A (u64s L)) :
    Calls Try.prog 24 #[.slice A m cap] w fun e w' => ∃ B c, e = .returned (.tuple #[.slice B (if m ≤ 64 then Runs.runs L else []).length c, .int .i64 (if m ≤ 64 then 0 else 2)]) ∧ Rd w' B (rws (if m ≤ 64 then Runs.runs L else [])) ∧ Ext w w' ∧ (B = none → (if m ≤ 64 then Runs.runs L else []).length = 0) ∧ (if m ≤ 64 then Runs.runs L else []).length ≤ c := by
  have HM := hid hm
  have HR := hid hr
  clear hm hr
  go_enter Try.func24, Try.ntmps24
  by_cases h : m ≤ 64
  · simp only [if_pos h]
    have hI : (m : Int) ≤ 64 := by omega
    have HX := hid (raw_any m cap A L HM.out (by omega))
    clear h
    go_wp2_with (go_at_call 42; refine (HX.out w HR.out).mono ?_; rintro e w' ⟨B, c, rfl, h1, h2, h3, h4⟩; have H1 := hid h1; have H2 := hid h2; have H3 := hid h3; have H4 := hid h4; clear h1 h2 h3 h4)
    go_returns
    exact ⟨B, c, rfl, H1.out, H2.out, H3.out, H4.out⟩
  · simp only [if_neg h]
    have hI : 64 < (m : Int) := by omega
    clear h
    go_wp2
    go_returns
    exact ⟨none, 0, rfl, fun h => absurd h (by simp [rws]), ext_refl _, fun _ => rfl, Nat.le_refl _⟩
end Go.Proofs.Ytgobnpogmghgkaa
