/- Runs: the document's RunsOf: walk. -/
import Derived.Test.YtgobnpogmghgkaaRug
namespace Go.Proofs.Ytgobnpogmghgkaa
open Go.RowKit Hy
set_option maxRecDepth 2000 in
set_option maxHeartbeats 1600000 in
theorem runsOf_any (l : List Nat) (A : Option Addr) (n cap : Nat) (w : World) (hn : l.length = n) (hr : Rd w A (u64s l)) (hnl : n ≤ 1000000000000) :
    Calls Try.prog 25 #[.slice A n cap] w fun e w' => ∃ B c, e = .returned (.slice B (Runs.runs l).length c) ∧ Rd w' B (rws (Runs.runs l)) ∧ Ext w w' := by
  have HN := hid hn
  have HA := hid hr
  have HL := hid hnl
  have hnI : (n : Int) ≤ 1000000000000 := by omega
  clear hr hn hnl
  go_enter Try.func25, Try.ntmps25
  go_wp2
  go_loopw [3, 4] (fun v c wr => ∃ k : Nat, k ≤ n ∧ c = .int .i64 ((k : Int) - 1) ∧ wr.ownsRow w.heap.size 54 2 v (Runs.runs (l.drop k)).length (rws (Runs.runs (l.drop k))) ∧ Ext w wr) (fun _ c _ => (intOf c + 1).toNat)
  case atStart => exact ⟨n, Nat.le_refl _, by go_num, by rw [List.drop_of_length_le (by rw [HN.out]; exact Nat.le_refl _)]; exact World.ownsRow_nil _ _ _ _, ext_refl _⟩
  case round =>
    obtain ⟨k, hk, rfl, hown, X⟩ := hrel
    obtain ⟨B, c, rfl, hrd, hB, hc, hcm⟩ := Rd.owned hown
    have HO := hid hown
    have HRD := hid hrd
    have HBN := hid hB
    clear hown hrd hB hc hcm
    by_cases hk0 : k = 0
    · subst hk0
      rw [List.drop_zero] at HO HRD
      go_wp2
      go_returns
      exact ⟨B, c, by rw [List.drop_zero]; rfl, HRD.out, X⟩
    · obtain ⟨j, rfl⟩ : ∃ j, k = j + 1 := ⟨k - 1, by omega⟩
      have hka : j < l.length := by rw [HN.out]; omega
      obtain ⟨b1, o1, e1, l1, c1⟩ := HA.out.nums j hka
      subst e1
      have d1 := (X.cell (p := ⟨b1, o1 + j, none⟩) l1).trans (c1 j hka)
      have HJ := hid (show Runs.runs (l.drop j) = Runs.put l[j] (Runs.runs (l.drop (j + 1))) by rw [List.drop_eq_getElem_cons hka]; rfl)
      have HLE := hid (Runs.runs_le (l.drop (j + 1)))
      have HLP := hid (Runs.runs_pos (l.drop (j + 1)))
      have HLN := hid (Runs.runs_len (l.drop (j + 1)))
      have HLD := hid (show (l.drop (j + 1)).length ≤ n by rw [List.length_drop, HN.out]; omega)
      generalize l[j] = x at *
      generalize Runs.runs (l.drop (j + 1)) = R at *
      clear c1 hka
      cases R with
      | nil =>
        go_wp2_with fail
        go_quiet (fail)
        go_wp2_with (at_builtin; go_loud (refine wpList_app rfl (.tmp 38) (.tmp 39) rowRn rfl _ 1 (rws [(x, 1)]) rfl (own_new (base := w.heap.size) rfl rfl ((X.draws _).size) (by decide)) _ 0 (rws []) rfl (Src.rd Try.underlying37 _ 0 c _ rfl ((HRD.out.keep (Ext.draws (ext_refl _) _)).keep (Ext.new (ext_refl _) _)) (rws_one _) HBN.out) (by decide) (by decide) (by have := X.size; simp; omega) ?_; intro v' w4 hown4 hgrow hat hbel))
        go_roundw
        case rel => exact ⟨j, by omega, by go_num, by rw [HJ.out]; exact hown4, (Ext.new (X.draws _) _).trans hbel⟩
        case measure => simp [intOf]
      | cons a r =>
        obtain ⟨u, m⟩ := a
        have hm : m ≤ (n : Int) := by have := HLE.out (u, m) List.mem_cons_self; have := HLD.out; omega
        have hm0 : (1 : Int) ≤ m := HLP.out (u, m) List.mem_cons_self
        obtain ⟨g, o, rfl, lg, cg⟩ := HRD.out.runs 0 (by simp)
        have g0 := (cg 0 (by simp)).1
        have g1 := (cg 0 (by simp)).2
        simp only [Nat.zero_mul, Nat.add_zero, List.getElem_cons_zero] at g0 g1
        clear cg
        by_cases hux : u = x
        · subst hux
          have e1 : ((u : Int) == (u : Int)) = true := by simp
          rcases HO.out.2 with ⟨h, _⟩ | ⟨b, cap', cur, hv, hb, hg, _⟩
          · cases h
          · injection hv with ha _ hcc
            subst hcc
            injection ha with ha
            injection ha with hgb ho _
            subst hgb ho
            have B : Blk wr g 54 cur := hg
            have f1 := B.frozen 1
            simp only [Nat.zero_add] at g1
            have hm1 : IntKind.i64.wrap (m + 1) = m + 1 := by rw [IntKind.wrap_i64]; omega
            have HJ' := hid (show Runs.runs (l.drop j) = (u, m + 1) :: r by rw [HJ.out]; simp [Runs.put])
            go_wp2_with fail
            go_quiet (fail)
            go_wp2
            go_roundw
            case rel => exact ⟨j, by omega, by go_num, by rw [HJ'.out]; exact own_set (own_ext (v := .slice (some ⟨g, 0, none⟩) (r.length + 1) c) (n := r.length + 1) HO.out (Ext.draws (ext_refl _) _)) rfl 1 _, Ext.put (X.draws _) hb _⟩
            case measure => simp [intOf]
        · have e1 : ((u : Int) == (x : Int)) = false := by rw [beq_eq_false_iff_ne]; omega
          go_wp2_with fail
          go_quiet (fail)
          go_wp2_with (at_builtin; go_loud (refine wpList_app rfl (.tmp 38) (.tmp 39) rowRn rfl _ 1 (rws [(x, 1)]) rfl (own_new (base := w.heap.size) rfl rfl ((X.draws _).size) (by decide)) _ (r.length + 1) (rws ((u, m) :: r)) rfl (Src.rd Try.underlying37 _ (r.length + 1) c _ (rws_len _) ((HRD.out.keep (Ext.draws (ext_refl _) _)).keep (Ext.new (ext_refl _) _)) (rws_one _) HBN.out) (by have := HLN.out; have := HLD.out; have := HL.out; simp only [List.length_cons, maxLen] at *; omega) (by have := HLN.out; have := HLD.out; have := HL.out; simp only [List.length_cons] at *; omega) (by have := X.size; simp; omega) ?_; intro v' w4 hown4 hgrow hat hbel))
          go_roundw
          case rel => exact ⟨j, by omega, by go_num, by rw [show Runs.runs (l.drop j) = (x, 1) :: (u, m) :: r by rw [HJ.out]; simp [Runs.put, hux], show ((x, 1) :: (u, m) :: r : List Runs.Run).length = 1 + (r.length + 1) by simp only [List.length_cons]; omega]; exact hown4, (Ext.new (X.draws _) _).trans hbel⟩
          case measure => simp [intOf]
end Go.Proofs.Ytgobnpogmghgkaa
