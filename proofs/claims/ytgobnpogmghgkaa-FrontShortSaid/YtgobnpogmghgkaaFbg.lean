/- Front: the closed tests, walked. -/
import Derived.Test.YtgobnpogmghgkaaFrf
import Derived.Test.YtgobnpogmghgkaaTsm
namespace Hy.Front
abbrev rooks : List (List UInt8) := [[114, 111, 111, 107], [114, 111, 111, 107, 115], [119, 114, 101, 110]]
abbrev rookB : List UInt8 := [0, 4, 114, 111, 111, 107, 4, 1, 115, 0, 4, 119, 114, 101, 110]
theorem wrt_a : wrt rooks = (rookB, 0) := by decide +kernel
theorem rdl_a : rdl rookB 3 = (rooks, 0) := by decide +kernel
theorem rdl_b : rdl [0, 1, 97, 0, 1, 97] 2 = ([], 1) := by decide +kernel
theorem rdl_c : rdl [1, 1, 97] 1 = ([], 3) := by decide +kernel
theorem shr_d : shr [97, 98, 99] [97, 98, 100] = 2 := by decide +kernel
end Hy.Front
namespace Go.Proofs.Ytgobnpogmghgkaa
open Go.RowKit Hy
theorem texts_any (v : Value) (w : World) : Calls Try.prog 39 #[v] w fun e w' => e = .returned v ∧ w = w' := by
  go_enter Try.func39, Try.ntmps39
  go_wp2
  go_returns
  exact ⟨rfl, rfl⟩
theorem fread_of (s : List UInt8) (many : Int) (l : List (List UInt8)) (err : Nat) (h : Front.rdl s many = (l, err)) (hs : s.length ≤ 281474976710656) (w : World) :
    Calls Try.prog 21 #[.string ⟨s.toArray⟩, .int .i64 many] w fun e w' => ∃ A cap, e = .returned (.tuple #[.slice A l.length cap, .int .i64 err]) ∧ Rd w' A (txs l) ∧ Ext w w' := by
  have h1 := fread_any ⟨s.toArray⟩ many w (by rw [str_size]; exact hs)
  refine h1.mono fun e w' h2 => ?_
  simp only [TextsOut, h] at h2
  exact h2
theorem fwrite_of (l : List (List UInt8)) (b : List UInt8) (err : Nat) (h : Front.wrt l = (b, err)) (A : Option Addr) (n cap : Nat) (w : World) (hn : l.length = n) (hr : Rd w A (txs l)) (hnl : n ≤ 140737488355328) :
    Calls Try.prog 15 #[.slice A n cap] w fun e w' => e = .returned (.tuple #[.string ⟨b.toArray⟩, .int .i64 err]) ∧ Ext w w' := by
  have := fwrite_any l A n cap w hn hr hnl
  rw [h] at this
  exact this
theorem shared_of (a b : List UInt8) (k : Nat) (h : Front.shr a b = k) (w : World) (ha : a.length ≤ 9223372036854775806) : Calls Try.prog 19 #[.string ⟨a.toArray⟩, .string ⟨b.toArray⟩] w fun e w' => e = .returned (.int .i64 k) ∧ Ext w w' := by
  have := shared_any ⟨a.toArray⟩ ⟨b.toArray⟩ w (by rw [str_size]; exact ha)
  rw [show Front.shr (⟨a.toArray⟩ : ByteArray).data.toList (⟨b.toArray⟩ : ByteArray).data.toList = k from h] at this
  exact this
set_option maxRecDepth 3000 in
set_option maxHeartbeats 1000000 in
theorem frontBegun_any (w : World) : Calls Try.prog 18 #[] w fun e w' => e = .returned (.bool true) ∧ Ext w w' := by
  have HST := hid (show sameTexts Front.rooks Front.rooks = true by decide)
  go_enter Try.func18, Try.ntmps18
  go_wp2_with (go_at_call 39; refine (texts_any _ _).mono ?_; rintro e w1 ⟨rfl, rfl⟩)
  refine (fwrite_of Front.rooks _ _ Front.wrt_a _ 3 3 _ rfl (rd_lit rfl rfl) (by decide)).mono ?_
  rintro e w2 ⟨rfl, b2⟩
  go_wp2_with fail
  refine (fread_of _ _ _ _ Front.rdl_a (by decide) _).mono ?_
  rintro e w3 ⟨A, cap, rfl, hrd, b3⟩
  have HRD := hid hrd
  clear hrd
  go_wp2_with fail
  refine (fread_of _ _ _ _ Front.rdl_b (by decide) _).mono ?_
  rintro e w4 ⟨A4, cap4, rfl, _, b4⟩
  go_wp2_with fail
  refine (fread_of _ _ _ _ Front.rdl_c (by decide) _).mono ?_
  rintro e w5 ⟨A5, cap5, rfl, _, b5⟩
  go_wp2_with (go_at_call 39; refine (texts_any _ _).mono ?_; rintro e w6 ⟨rfl, rfl⟩)
  refine (sameTexts_any Front.rooks Front.rooks _ _ 3 3 _ _ _ rfl rfl (HRD.out.keep ((b4.then b5).new _)) (rd_lit rfl rfl) (by decide)).mono ?_
  rintro e w7 ⟨rfl, b7⟩
  rw [HST.out]
  go_wp2_with fail
  refine (shared_of _ _ _ Front.shr_d _ (by decide)).mono ?_
  rintro e w8 ⟨rfl, b8⟩
  go_wp2
  go_returns
  exact ⟨rfl, ((((((ext_refl w).new _).then b2).then b3).then ((b4.then b5).new _)).then b7).then b8⟩
end Go.Proofs.Ytgobnpogmghgkaa
