/- Bloom: the closed tests, walked. -/
import Derived.Test.YtiamfjfbmgijhaaBma
import Derived.Test.YtiamfjfbmgijhaaBmd
namespace Go.Proofs.Ytiamfjfbmgijhaa
open Go.RowKit Hy

theorem cText_any (s : ByteArray) (w : World) :
    Calls Try.prog 32 #[.string s] w fun e w' => e = .returned (.agg #[.int .i64 2, .int .u64 0, .string s]) ∧ Ext w w' := by
  go_enter Try.func32, Try.ntmps32
  go_wp2
  go_returns
  exact ⟨rfl, (ext_refl _).new _⟩
theorem none_any (w : World) :
    Calls Try.prog 33 #[] w fun e w' => e = .returned (.agg #[.int .u64 0, .int .u64 0, .int .u64 0, .int .u64 0]) ∧ Ext w w' := by
  go_enter Try.func33, Try.ntmps33
  go_wp2
  go_returns
  exact ⟨rfl, (ext_refl _).new _⟩
theorem cells_any (A : Option Addr) (n c : Nat) (w : World) :
    Calls Try.prog 28 #[.slice A n c] w fun e w' => e = .returned (.slice A n c) ∧ w = w' := by
  go_enter Try.func28, Try.ntmps28
  go_wp2
  go_returns
  exact ⟨rfl, rfl⟩

theorem neqT (TT : TypeId) (hu : Try.prog.underlying TT = some (.array 4 22)) (a0 a1 a2 a3 b0 b1 b2 b3 : Int) (w : World) : (binOp .neq TT (.agg #[.int .u64 a0, .int .u64 a1, .int .u64 a2, .int .u64 a3]) (.agg #[.int .u64 b0, .int .u64 b1, .int .u64 b2, .int .u64 b3])).run Try.prog w = .ok (.bool (!(a0 == b0 && (a1 == b1 && (a2 == b2 && a3 == b3))))) w := by
  have h := eqT TT hu a0 a1 a2 a3 b0 b1 b2 b3 w
  rw [run_eql_struct] at h
  rw [run_neq_struct]
  generalize (Op.equalIn 10000 TT (.agg #[.int .u64 a0, .int .u64 a1, .int .u64 a2, .int .u64 a3]) (.agg #[.int .u64 b0, .int .u64 b1, .int .u64 b2, .int .u64 b3])).run Try.prog w = r at *
  cases r with
  | ok b w1 =>
    simp only [Result.andThen_ok, Result.ok.injEq, Value.bool.injEq] at h ⊢
    obtain ⟨rfl, rfl⟩ := h
    exact ⟨rfl, rfl⟩
  | halt x w1 => simp [Result.andThen] at h
def rook : C := ⟨2, 0, ⟨#[114, 111, 111, 107]⟩⟩
theorem none_not (c : C) : Bloom.may Bloom.none c = false := by
  have h : ∀ m, Bloom.hasm Bloom.none m = false := fun m => by unfold Bloom.hasm Bloom.none; exact Nat.zero_testBit _
  unfold Bloom.may; rw [h]; rfl
theorem rook_may : Bloom.may (Bloom.of Bloom.none [rook]) rook = true := Bloom.may_in Bloom.none [] [] rook
theorem rook_ne : Bloom.sameF (Bloom.of Bloom.none [rook]) Bloom.none = false := by
  cases h : Bloom.sameF (Bloom.of Bloom.none [rook]) Bloom.none
  · rfl
  · have h1 : Bloom.may Bloom.none rook = true := by
      rw [← Bloom.same_add]
      exact h
    rw [none_not] at h1; cases h1
set_option maxHeartbeats 1000000 in
theorem bbegun_any (w : World) : Calls Try.prog 12 #[] w fun e w' => e = .returned (.bool true) ∧ Ext w w' := by
  have hF := Bloom.of_ok Bloom.none_ok [rook]
  have HO : Hid (∀ (w : World) (A : Option Addr), Rd w A ([rook].flatMap C.cells) → Calls Try.prog 14 #[.slice A 1 1] w fun e w' => e = .returned (.agg #[.int .u64 (Bloom.of Bloom.none [rook] 0), .int .u64 (Bloom.of Bloom.none [rook] 1), .int .u64 (Bloom.of Bloom.none [rook] 2), .int .u64 (Bloom.of Bloom.none [rook] 3)]) ∧ Ext w w') :=
    fun w A hr => of_f_any [rook] 1 A 1 w hr (fun c hc => by simp at hc; subst hc; exact ⟨by decide, by decide⟩) rfl (by decide)
  have G13 : Gives Try.prog 13 #[.agg #[.int .u64 (Bloom.of Bloom.none [rook] 0), .int .u64 (Bloom.of Bloom.none [rook] 1), .int .u64 (Bloom.of Bloom.none [rook] 2), .int .u64 (Bloom.of Bloom.none [rook] 3)], .agg #[.int .i64 2, .int .u64 0, .string ⟨#[114, 111, 111, 107]⟩]] (.bool true) := fun w => by
    have := may_f_any (Bloom.of Bloom.none [rook]) 2 0 ⟨#[114, 111, 111, 107]⟩ w hF (by decide) (by decide)
    rw [show (⟨2, 0, ⟨#[114, 111, 111, 107]⟩⟩ : C) = rook from rfl, rook_may] at this
    exact this
  have G13n : Gives Try.prog 13 #[.agg #[.int .u64 0, .int .u64 0, .int .u64 0, .int .u64 0], .agg #[.int .i64 2, .int .u64 0, .string ⟨#[114, 111, 111, 107]⟩]] (.bool false) := fun w => by
    have := may_f_any Bloom.none 2 0 ⟨#[114, 111, 111, 107]⟩ w Bloom.none_ok (by decide) (by decide)
    rw [none_not] at this
    exact this
  have G25 : Gives Try.prog 25 #[.agg #[.int .i64 0, .int .u64 0, .string ⟨#[]⟩]] (.int .u64 (Bloom.hash ⟨0, 0, ⟨#[]⟩⟩)) := fun w => hash_any 0 0 ⟨#[]⟩ w (by decide) (by decide)
  have G26 : Gives Try.prog 26 #[.agg #[.int .i64 0, .int .u64 0, .string ⟨#[]⟩]] (.int .u64 (Bloom.hash ⟨0, 0, ⟨#[]⟩⟩)) := fun w => hashOf_any 0 0 ⟨#[]⟩ w (by decide) (by decide)
  have G32 : Gives Try.prog 32 #[.string ⟨#[114, 111, 111, 107]⟩] (.agg #[.int .i64 2, .int .u64 0, .string ⟨#[114, 111, 111, 107]⟩]) := fun w => cText_any _ w
  have G33 : Gives Try.prog 33 #[] (.agg #[.int .u64 0, .int .u64 0, .int .u64 0, .int .u64 0]) := none_any
  have HN := rook_ne
  unfold Bloom.sameF at HN
  rw [show ∀ i, ((Bloom.none i : Nat) : Int) = 0 from fun _ => rfl, show ∀ i, ((Bloom.none i : Nat) : Int) = 0 from fun _ => rfl, show ∀ i, ((Bloom.none i : Nat) : Int) = 0 from fun _ => rfl, show ∀ i, ((Bloom.none i : Nat) : Int) = 0 from fun _ => rfl] at HN
  generalize Bloom.of Bloom.none [rook] = F at *
  generalize Bloom.hash ⟨0, 0, ⟨#[]⟩⟩ = hh at *
  go_enter Try.func12, Try.ntmps12
  go_wp2_with (first
    | (go_at_call 32; refine (cText_any _ _).mono ?_; rintro e w2 ⟨rfl, b2⟩)
    | (go_at_call 28; refine (cells_any _ _ _ _).mono ?_; rintro e w3 ⟨rfl, rfl⟩))
  refine (HO.out _ _ (rd_new rfl fun j u hu => ?_)).mono ?_
  · rw [← Array.getElem?_toList]; exact hu
  rintro e w4 ⟨rfl, b4⟩
  have B := (b2.new _).then b4
  clear b2 b4
  go_upto_region 2 with fail
  refine wp_gen (fun w' => Ext w w' ∧ Blk w' w4.heap.size 23 #[.int .u64 (F 0), .int .u64 (F 1), .int .u64 (F 2), .int .u64 (F 3)]) ⟨B.new _, Blk.newAt rfl⟩ ?_
  rintro wz ⟨B, B1⟩
  have a0 := cell_regrown (B1.cell 0)
  have a1 := cell_regrown (B1.cell 1)
  have a2 := cell_regrown (B1.cell 2)
  have a3 := cell_regrown (B1.cell 3)
  have eq := eqT 23 und23
  have ne := neqT 23 und23
  refine wp_region_quiet_below (by kernel_rfl) (by kernel_rfl) ?_
  repeat (go_big_quiet_step ((first
    | (go_at_call 33; exact G33.quiet _ _ _)
    | (go_at_call 32; exact G32.quiet _ _ _)
    | (go_at_call 25; exact G25.quiet _ _ _)
    | (go_at_call 26; exact G26.quiet _ _ _)
    | (go_at_call_of 13 (Value.agg #[.int .u64 (F 0), .int .u64 (F 1), .int .u64 (F 2), .int .u64 (F 3)]); exact G13.quiet _ _ _)
    | (go_at_call 13; exact G13n.quiet _ _ _))))
  refine wpQuiet_nil ?_
  intro w9 hw9
  obtain ⟨p, rfl⟩ := hw9
  go_wp2
  go_returns
  exact ⟨rfl, B.then (ext_regrown wz p)⟩
end Go.Proofs.Ytiamfjfbmgijhaa
