/- The document's TextLess: walk. -/
import Derived.Test.YtolhifnlahllnaaGreatDoorClx
import Derived.Test.YtolhifnlahllnaaGreatDoorGen
import Derived.Test.YtolhifnlahllnaaGreatDoorProg
namespace Go.Proofs.YtolhifnlahllnaaGreatDoor
open Go.RowKit Hy
set_option maxHeartbeats 1600000 in
/-- the document's TextLess -/
theorem textLess_any (s t : ByteArray) (w : World) (hs : s.size ≤ 140737488355328) (ht : t.size ≤ 140737488355328) :
    Calls Tryz.prog 96 #[.string s, .string t] w fun e w' => e = .returned (.bool (Cel.tless s t)) ∧ Ext w w' := by
  obtain ⟨R, hR⟩ : ∃ R, R = Cel.tless s t := ⟨_, rfl⟩
  rw [← hR]
  have HR := hid (show R = numsLess (Cel.bl s) (Cel.bl t) from hR)
  have HLS := hid (Cel.bl_len s)
  have HLT := hid (Cel.bl_len t)
  obtain ⟨a, ha⟩ : ∃ a, a = Cel.bl s := ⟨_, rfl⟩
  obtain ⟨b, hb⟩ : ∃ b, b = Cel.bl t := ⟨_, rfl⟩
  have HAE := hid (show ∀ j (hj : j < a.length) (hj' : j < s.size), ((s[j]'hj').toNat) = a[j] by subst ha; intro j hj hj'; simp [Cel.bl]; rfl)
  have HBE := hid (show ∀ j (hj : j < b.length) (hj' : j < t.size), ((t[j]'hj').toNat) = b[j] by subst hb; intro j hj hj'; simp [Cel.bl]; rfl)
  rw [← ha] at HR HLS
  rw [← hb] at HR HLT
  have hsI : (s.size : Int) ≤ 140737488355328 := by omega
  have htI : (t.size : Int) ≤ 140737488355328 := by omega
  clear hR ha hb hs ht
  go_enter Tryz.func96, Tryz.ntmps96
  go_wp2
  go_loopw [5] (fun i wr => ∃ k : Nat, k ≤ s.size ∧ k ≤ t.size ∧ i = .int .i64 k ∧ Hid (a.take k = b.take k) ∧ Ext w wr) (fun i _ => s.size - (intOf i).toNat)
  case atStart => exact ⟨0, Nat.zero_le _, Nat.zero_le _, rfl, hid rfl, ext_refl _⟩
  case round =>
    obtain ⟨k, hk1, hk2, rfl, HT, X⟩ := hrel
    by_cases h1 : k < s.size
    · by_cases h2 : k < t.size
      · have ha : k < a.length := by rw [HLS.out]; exact h1
        have hb : k < b.length := by rw [HLT.out]; exact h2
        have ea := HAE.out k ha h1
        have eb := HBE.out k hb h2
        obtain ⟨x, hx⟩ : ∃ x, x = s[k]'h1 := ⟨_, rfl⟩
        obtain ⟨y, hy⟩ : ∃ y, y = t[k]'h2 := ⟨_, rfl⟩
        have hrs := fun w : World => run_ix (P := Tryz.prog) (w := w) Tryz.underlying9 s .i64 k x (by rw [List.getElem?_eq_getElem (by simpa using h1), hx]; rfl)
        have hrt := fun w : World => run_ix (P := Tryz.prog) (w := w) Tryz.underlying9 t .i64 k y (by rw [List.getElem?_eq_getElem (by simpa using h2), hy]; rfl)
        rw [← hx] at ea
        rw [← hy] at eb
        by_cases hxy : x = y
        · have HN := hid (show a.take (k + 1) = b.take (k + 1) from numsLess_step a b k ha hb HT.out (by rw [← ea, ← eb, hxy]))
          have e1 : ((x.toNat : Int) == (y.toNat : Int)) = true := by rw [hxy]; simp
          have e2 : ((x.toNat : Int) != (y.toNat : Int)) = false := by rw [hxy]; simp
          clear ea eb hx hy hxy ha hb
          go_wp2_with fail
          go_quiet (fail)
          go_wp2
          go_roundw
          case rel => exact ⟨k + 1, by omega, by omega, by go_num, HN, X.draws _⟩
          case measure => simp [intOf]; omega
        · have hne : x.toNat ≠ y.toNat := fun h => hxy (UInt8.toNat.inj h)
          have HE := hid (show R = decide (x.toNat < y.toNat) by rw [HR.out, numsLess_diff a b k ha hb HT.out (by rw [← ea, ← eb]; exact hne), ea, eb])
          have e1 : ((x.toNat : Int) == (y.toNat : Int)) = false := by rw [beq_eq_false_iff_ne]; omega
          have e2 : ((x.toNat : Int) != (y.toNat : Int)) = true := by simp; omega
          clear ea eb hx hy hxy ha hb
          clear hne
          go_wp2_with fail
          go_quiet (fail)
          go_wp2_with fail
          go_quiet (fail)
          go_wp2
          go_returns
          exact ⟨by rw [HE.out]; rfl, (X.draws _).draws _⟩
      · have hkt : k = t.size := by omega
        have HE := hid (show R = decide (a.length < b.length) by
          rw [HR.out]; refine numsLess_end a b ?_
          rw [HLS.out, HLT.out, Nat.min_eq_right (by omega), ← hkt]; exact HT.out)
        have HE2 := hid (show R = decide (s.size < t.size) by rw [HE.out, HLS.out, HLT.out])
        clear hkt HE
        go_wp2
        go_returns
        exact ⟨by rw [HE2.out]; simp, X⟩
    · have hks : k = s.size := by omega
      have HE := hid (show R = decide (a.length < b.length) by
        rw [HR.out]; refine numsLess_end a b ?_
        rw [HLS.out, HLT.out, Nat.min_eq_left (by omega), ← hks]; exact HT.out)
      have HE2 := hid (show R = decide (s.size < t.size) by rw [HE.out, HLS.out, HLT.out])
      clear hks HE
      go_wp2
      go_returns
      exact ⟨by rw [HE2.out]; simp, X⟩
end Go.Proofs.YtolhifnlahllnaaGreatDoor
