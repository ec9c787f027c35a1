/- Vary: All, the closure of ReadAll: walks. -/
import Derived.Test.YthcmmmccbpfflaaVrd
namespace Go.Proofs.Ythcmmmccbpfflaa
open Go.RowKit Hy
theorem rowU64 : RowT Try.prog 32 22 1 8 := RowT.mk' (z := .int .u64 0) Try.underlying32 (by kernel_rfl) rfl (by decide)
set_option maxHeartbeats 400000 in
theorem all_any (l : List Nat) (A : Option Addr) (n cap : Nat) (w : World) (hn : l.length = n) (hr : Rd w A (u64s l)) (hl : ∀ x ∈ l, x < 18446744073709551616) (hnl : n ≤ 17592186044416) :
    Calls Try.prog 23 #[.slice A n cap] w fun e w' => e = .returned (.string ⟨(Vary.all l).toArray⟩) ∧ Ext w w' := by
  have HN := hid hn
  have HA := hid hr
  have HB := hid hl
  clear hr hl hn
  go_enter Try.func23, Try.ntmps23
  go_wp2
  go_loopw [3, 5, 8] (fun v _ c wr => ∃ k : Nat, k ≤ n ∧ c = .int .i64 k ∧ wr.ownsRow w.heap.size 5 1 v (Vary.all (l.take k)).length (u8s (Vary.all (l.take k))) ∧ Ext w wr) (fun _ _ c _ => n - (intOf c).toNat)
  case atStart => exact ⟨0, Nat.zero_le _, rfl, by simpa [Vary.all_nil, u8s] using World.ownsRow_nil _ _ _ _, ext_refl _⟩
  case round =>
    obtain ⟨k, hk, rfl, hown, X⟩ := hrel
    have HO := hid hown
    clear hown
    by_cases hlt : k < n
    · have hka : k < l.length := by rw [HN.out]; exact hlt
      obtain ⟨b1, o1, e1, l1, c1⟩ := HA.out.nums k hka
      subst e1
      have d1 := (X.cell (p := ⟨b1, o1 + k, none⟩) l1).trans (c1 k hka)
      have HS := hid (show Vary.all (l.take (k + 1)) = Vary.all (l.take k) ++ Vary.wr l[k] by rw [List.take_succ_eq_append_getElem hka, Vary.all_snoc])
      have hx := HB.out l[k] (List.getElem_mem hka)
      have hq : (Vary.all (l.take k)).length ≤ 9 * k := by have := Vary.all_len (l.take k); rw [List.length_take] at this; omega
      have hw9 : (Vary.wr l[k]).length ≤ 9 := by rw [Vary.wr_len]; have := Vary.beh_le8 l[k]; omega
      have CW := fun wx : World => hid (write_any l[k] wx hx)
      clear c1 hx
      generalize Vary.wr l[k] = q at *
      generalize l[k] = x at *
      clear hka
      generalize Vary.all (l.take k) = p at *
      go_wp2_with (first
        | (go_at_call 19; refine (CW _).out.mono ?_; rintro e w2 ⟨rfl, b2⟩)
        | (at_builtin; refine wpList_app rfl (.tmp 12) (.tmp 14) rowU8 rfl _ p.length _ rfl (own_ext HO.out b2) _ q.length (u8s q) rfl (Src.ofList Try.underlying9 q) (by unfold maxLen; omega) (by omega) (by have := b2.size; have := X.size; omega) ?_; intro v' w3 hown hgrow hat hbel))
      go_roundw
      case rel => exact ⟨k + 1, by omega, by go_num, by rw [HS.out, List.length_append, u8s_app]; exact hown, (X.then b2).trans hbel⟩
      case measure => simp [intOf]; omega
    · obtain rfl : k = n := by omega
      have hs := run_str_own (w := wr) Try.underlying51 Try.underlying5 Try.underlying9 HO.out
      go_wp2
      go_returns
      have e1 : l.take k = l := List.take_of_length_le (by rw [HN.out]; exact Nat.le_refl _)
      exact ⟨by rw [e1]; rfl, X⟩
end Go.Proofs.Ythcmmmccbpfflaa
