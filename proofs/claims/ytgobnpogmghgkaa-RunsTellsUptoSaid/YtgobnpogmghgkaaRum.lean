/- Runs: RawExpand, Expanded: walks. -/
import Derived.Test.YtgobnpogmghgkaaRul
import Derived.Test.YtgobnpogmghgkaaRug
namespace Hy.Runs
theorem unrun_app (l m : List Run) : unrun (l ++ m) = unrun l ++ unrun m := by simp [unrun]
theorem unrun_snoc (l : List Run) (k : Nat) (h : k < l.length) : unrun (l.take (k + 1)) = unrun (l.take k) ++ List.replicate l[k].2.toNat l[k].1 := by
  rw [List.take_succ_eq_append_getElem h, unrun_app]; simp [unrun]
theorem unrun_part (l : List Run) (k : Nat) : (unrun (l.take k)).length ≤ (unrun l).length := by
  conv => rhs; rw [← List.take_append_drop k l, unrun_app]
  simp
end Hy.Runs
namespace Go.Proofs.Ytgobnpogmghgkaa
open Go.RowKit Hy
set_option maxHeartbeats 1600000 in
theorem rawExpand_any (l : List Runs.Run) (A : Option Addr) (n cap : Nat) (w : World) (hn : l.length = n) (hr : Rd w A (rws l)) (hnl : n ≤ 1000000000000) (hp : ∀ a ∈ l, 1 ≤ a.2) (ht : (Runs.unrun l).length ≤ 64) :
    Calls Try.prog 45 #[.slice A n cap] w fun e w' => ∃ B c, e = .returned (.slice B (Runs.unrun l).length c) ∧ Rd w' B (u64s (Runs.unrun l)) ∧ Ext w w' := by
  have HN := hid hn
  have HA := hid hr
  have HP := hid hp
  have HT := hid ht
  have hnI : (n : Int) ≤ 1000000000000 := by omega
  clear hn hr hnl hp ht
  go_enter Try.func45, Try.ntmps45
  go_wp2
  go_loopw [3, 8] (fun x c wr => ∃ k : Nat, k ≤ n ∧ c = .int .i64 k ∧ wr.ownsRow w.heap.size 46 1 x (Runs.unrun (l.take k)).length (u64s (Runs.unrun (l.take k))) ∧ Ext w wr) (fun _ c _ => n - (intOf c).toNat)
  case atStart => exact ⟨0, Nat.zero_le _, rfl, World.ownsRow_nil _ _ _ _, ext_refl _⟩
  case round =>
    obtain ⟨k, hk, rfl, hown, X⟩ := hrel
    obtain ⟨B, c, rfl, hrd, hB, hc, hcm⟩ := Rd.owned hown
    have HO := hid hown
    have HRD := hid hrd
    clear hown hrd hB hc hcm
    by_cases hlt : k < n
    · have hka : k < l.length := by rw [HN.out]; exact hlt
      obtain ⟨b1, o1, e1, l1, c1⟩ := HA.out.runs k hka
      subst e1
      have dv := (X.cell (p := ⟨b1, o1 + k * 2, none⟩) l1).trans (c1 k hka).1
      have dn := (X.cell (p := ⟨b1, o1 + k * 2 + 1, none⟩) l1).trans (c1 k hka).2
      have h1 : 1 ≤ l[k].2 := HP.out _ (List.getElem_mem hka)
      have hS := Runs.unrun_snoc l k hka
      have hL : (Runs.unrun (l.take (k + 1))).length ≤ 64 := Nat.le_trans (Runs.unrun_part l (k + 1)) HT.out
      obtain ⟨N, hN⟩ : ∃ N : Nat, l[k].2 = (N : Int) := ⟨l[k].2.toNat, by omega⟩
      rw [hN] at dn hS h1
      rw [Int.toNat_natCast] at hS
      generalize l[k].1 = v at *
      rw [hS, List.length_append, List.length_replicate] at hL
      have HS := hid hS
      have HL := hid hL
      have h1N : 1 ≤ N := by omega
      have H1N := hid h1N
      have h64 : (N : Int) ≤ 64 := by omega
      clear hS hL hN h1N c1 hka
      generalize Runs.unrun (l.take k) = U at *
      have dvn : (wr.alloc (.cells #[.int .u64 (v : Int), .int .i64 (N : Int)] 54)).cell? ⟨wr.heap.size, 0, none⟩ = some (.int .u64 (v : Int)) := (Blk.new wr 54 #[.int .u64 (v : Int), .int .i64 (N : Int)]).cell 0
      have dnn := fun o => ext_cell (Ext.new (ext_refl (wr.alloc (.cells #[.int .u64 (v : Int), .int .i64 (N : Int)] 54))) o) ((Blk.new wr 54 #[.int .u64 (v : Int), .int .i64 (N : Int)]).cell 1)
      have HNI := hid (show (N : Int) ≤ 1000000000000 by omega)
      have DREP := hid (show ((wr.alloc (.cells #[.int .u64 (v : Int), .int .i64 (N : Int)] 54)).alloc (.cells #[.int .u64 (v : Int)] 46)).cell? ⟨wr.heap.size + 1, 0, none⟩ = some (.int .u64 (v : Int)) from (Blk.newAt (cs := #[.int .u64 (v : Int)]) (t := 46) (w := wr.alloc (.cells #[.int .u64 (v : Int), .int .i64 (N : Int)] 54)) (by simp)).cell 0)
      have HX2 := hid (show Ext wr ((wr.alloc (.cells #[.int .u64 (v : Int), .int .i64 (N : Int)] 54)).alloc (.cells #[.int .u64 (v : Int)] 46)) from Ext.new (Ext.new (ext_refl wr) _) _)
      go_wp2_with (first
        | (go_at_call 54; go_loud (refine (rep_any (wr.heap.size + 1) 0 1 v N H1N.out HNI.out _ DREP.out).mono ?_; rintro e w4 ⟨g, rfl, hrd, hx⟩; have HR4 := hid hrd; have HX4 := hid hx; clear hrd hx))
        | (at_builtin; go_loud (refine wpList_app rfl (.tmp 12) (.tmp 18) rowU64 rfl _ U.length (u64s U) rfl (own_ext HO.out (HX2.out.then HX4.out)) _ N (List.replicate N (.int .u64 (v : Int))) rfl (Src.rd Try.underlying36 _ N N _ (by simp) HR4.out (by simp [Value.oneCell']) (fun h => by cases h)) (by have := HL.out; simp only [maxLen]; omega) (by have := HL.out; omega) (X.then (HX2.out.then HX4.out)).size ?_; intro v' w5 hown5 hgrow hat hbel)))
      go_roundw
      case rel =>
        refine ⟨k + 1, by omega, by go_num, ?_, (X.then (HX2.out.then HX4.out)).trans hbel⟩
        rw [HS.out, List.length_append, List.length_replicate, u64s_app]
        have e : u64s (List.replicate N v) = List.replicate N (.int .u64 (v : Int)) := by simp [u64s]
        rw [e]; exact hown5
      case measure => simp [intOf]; omega
    · obtain rfl : k = n := by omega
      go_wp2
      go_returns
      have e : l.take k = l := List.take_of_length_le (by rw [HN.out]; exact Nat.le_refl _)
      rw [e] at HRD ⊢
      exact ⟨B, c, rfl, HRD.out, X⟩
set_option maxHeartbeats 1600000 in
theorem expanded_any (l : List Runs.Run) (A : Option Addr) (n cap : Nat) (w : World) (hn : l.length = n) (hr : Rd w A (rws l)) (hnl : n ≤ 1000000000000) (hp : ∀ a ∈ l, 0 ≤ a.2) (ht : (Runs.unrun l).length ≤ 64) :
    Calls Try.prog 33 #[.slice A n cap] w fun e w' => ∃ B c, e = .returned (.slice B (Runs.unrun l).length c) ∧ Rd w' B (u64s (Runs.unrun l)) ∧ Ext w w' := by
  have HN := hid hn
  have HA := hid hr
  have HP := hid hp
  have HT := hid ht
  have hnI : (n : Int) ≤ 1000000000000 := by omega
  clear hn hr hnl hp ht
  go_enter Try.func33, Try.ntmps33
  go_wp2
  go_loopw [3, 4, 5] (fun x c _ wr => ∃ k : Nat, k ≤ n ∧ c = .int .i64 k ∧ wr.ownsRow w.heap.size 46 1 x (Runs.unrun (l.take k)).length (u64s (Runs.unrun (l.take k))) ∧ Ext w wr) (fun _ c _ _ => n - (intOf c).toNat)
  case atStart => exact ⟨0, Nat.zero_le _, rfl, World.ownsRow_nil _ _ _ _, ext_refl _⟩
  case round =>
    obtain ⟨k, hk, rfl, hown, X⟩ := hrel
    by_cases hlt : k < n
    · have hka : k < l.length := by rw [HN.out]; exact hlt
      obtain ⟨b1, o1, e1, l1, c1⟩ := HA.out.runs k hka
      subst e1
      have HDV := hid ((X.cell (p := ⟨b1, o1 + k * 2, none⟩) l1).trans (c1 k hka).1)
      have HDN := hid ((X.cell (p := ⟨b1, o1 + k * 2 + 1, none⟩) l1).trans (c1 k hka).2)
      have HD1 := hid (show w.cell? ⟨b1, o1 + k * 2, none⟩ = _ from (c1 k hka).1)
      have HD2 := hid (show w.cell? ⟨b1, o1 + k * 2 + 1, none⟩ = _ from (c1 k hka).2)
      have HL1 := hid l1
      have h1 : 0 ≤ l[k].2 := HP.out _ (List.getElem_mem hka)
      have hS := Runs.unrun_snoc l k hka
      have hL : (Runs.unrun (l.take (k + 1))).length ≤ 64 := Nat.le_trans (Runs.unrun_part l (k + 1)) HT.out
      obtain ⟨N, hN⟩ : ∃ N : Nat, l[k].2 = (N : Int) := ⟨l[k].2.toNat, by omega⟩
      rw [hN] at HDN HD2 hS h1
      rw [Int.toNat_natCast] at hS
      generalize l[k].1 = v at *
      rw [hS, List.length_append, List.length_replicate] at hL
      have HS := hid hS
      have HL := hid hL
      have h64 : (N : Int) ≤ 64 := by omega
      have HO := hid hown
      have HX := hid X
      clear hS hL hN c1 hka hown X l1 h1
      generalize Runs.unrun (l.take k) = U at *
      go_wp2
      go_loopw [3, 5] (fun x d wi => ∃ j : Nat, j ≤ N ∧ d = .int .i64 j ∧ wi.ownsRow w.heap.size 46 1 x (U.length + j) (u64s (U ++ List.replicate j v)) ∧ Ext w wi) (fun _ d _ => N - (intOf d).toNat)
      case atStart => exact ⟨0, Nat.zero_le _, rfl, by simpa using HO.out, HX.out⟩
      case round =>
        clear HDV HDN HO HX
        obtain ⟨j, hj, rfl, hown, X⟩ := hrel
        have HO := hid hown
        have HXE := hid X
        have dv := (X.cell (p := ⟨b1, o1 + k * 2, none⟩) HL1.out).trans HD1.out
        have dn := (X.cell (p := ⟨b1, o1 + k * 2 + 1, none⟩) HL1.out).trans HD2.out
        clear hown
        by_cases hjl : j < N
        · go_wp2_with (at_builtin; go_loud (refine wpList_app rfl (.tmp 21) (.tmp 27) rowU64 rfl _ (U.length + j) (u64s (U ++ List.replicate j v)) rfl (own_ext HO.out (Ext.new (ext_refl _) _)) _ 1 (u64s [v]) rfl (Src.rd Try.underlying36 _ 1 1 _ rfl (rd_lit rfl rfl) (u64s_one _) (fun h => by cases h)) (by have := HL.out; simp only [maxLen]; omega) (by have := HL.out; omega) (by have := HXE.out.size; simp; omega) ?_; intro v' w5 hown5 hgrow hat hbel))
          go_roundw
          case rel =>
            refine ⟨j + 1, by omega, by go_num, ?_, (Ext.new HXE.out _).trans hbel⟩
            rw [List.replicate_succ', ← List.append_assoc, u64s_app, ← Nat.add_assoc]; exact hown5
          case measure => simp [intOf]; omega
        · obtain rfl : j = N := by omega
          go_wp2
          go_roundw
          case rel => exact ⟨k + 1, by omega, by go_num, by rw [HS.out, List.length_append, List.length_replicate]; exact HO.out, HXE.out⟩
          case measure => simp [intOf]; omega
    · obtain rfl : k = n := by omega
      obtain ⟨B, c, rfl, hrd, hB, hc, hcm⟩ := Rd.owned hown
      have HRD := hid hrd
      clear hown hrd hB hc hcm
      go_wp2
      go_returns
      have e : l.take k = l := List.take_of_length_le (by rw [HN.out]; exact Nat.le_refl _)
      rw [e] at HRD ⊢
      exact ⟨B, c, rfl, HRD.out, X⟩
end Go.Proofs.Ytgobnpogmghgkaa
