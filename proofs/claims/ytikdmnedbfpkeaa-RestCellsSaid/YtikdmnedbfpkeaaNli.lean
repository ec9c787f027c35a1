/- NullsJoin, NullsBack: walks. -/
import Derived.Test.YtikdmnedbfpkeaaNlh
namespace Hy.Cel
theorem cnt_there (l : List Cel) : (thereL l).count true = (dense l).length := by
  induction l with
  | nil => rfl
  | cons c l ih =>
    unfold thereL dense at *
    by_cases h : c.1 = 0
    · simp [h] at ih ⊢; exact ih
    · simp [h] at ih ⊢; exact ih
theorem jat_back {l : List Cel} (hl : ∀ c ∈ l, ok c) (i : Nat) (h : i < l.length) : jat (thereL l) (dense l) i = l[i] := by
  have hm : i < (thereL l).length := by rw [thereL_len]; exact h
  have hv : (thereL l)[i] = decide (l[i].1 ≠ 0) := by unfold thereL; simp
  have hc : ((thereL l).take i).count true = (dense (l.take i)).length := by rw [← cnt_there]; unfold thereL; rw [List.map_take]
  by_cases h0 : l[i].1 = 0
  · rw [jat_no _ _ i hm (by rw [hv]; simp [h0])]
    exact (hl _ (List.getElem_mem h) h0).symm
  · have hsp : dense l = dense (l.take i) ++ ([l[i]] ++ dense (l.drop (i + 1))) := by
      have e : l = l.take i ++ (l[i] :: l.drop (i + 1)) := by rw [← List.drop_eq_getElem_cons h, List.take_append_drop]
      have hd : dense (l[i] :: l.drop (i + 1)) = [l[i]] ++ dense (l.drop (i + 1)) := by unfold dense; rw [List.filter_cons_of_pos (by simp [h0])]; rfl
      rw [← hd, ← dense_app, ← e]
    unfold jat
    rw [List.getD_eq_getElem?_getD, List.getElem?_eq_getElem hm, Option.getD_some, if_pos (by rw [hv]; simp [h0]), hc, List.getD_eq_getElem?_getD, hsp, List.getElem?_append_right (Nat.le_refl _)]
    simp
theorem jn_back {l : List Cel} (hl : ∀ c ∈ l, ok c) : jn (thereL l) (dense l) = l := by
  unfold jn
  apply List.ext_getElem
  · simp [thereL_len]
  · intro i h1 h2
    simp only [List.getElem_map, List.getElem_range]
    exact jat_back hl i h2
theorem back {kind : Int} {l : List Cel} (h : cchk kind l = 0) : jchk kind (thereL l) (dense l) = 0 ∧ jout kind (thereL l) (dense l) = l := by
  have hok := cchk_ok h
  obtain ⟨h1, h2, h3⟩ := cchk_iff.1 h
  have c1 : cchk kind (dense l) = 0 := cchk_iff.2 ⟨h1, Nat.le_trans (dense_len l) h2, fun c hc => h3 c ((List.mem_filter.1 hc).1)⟩
  have c2 : anyNull (dense l) = false := by
    unfold anyNull dense
    rw [List.any_eq_false]
    intro c hc
    have := (List.mem_filter.1 hc).2
    simpa using this
  have hj : jchk kind (thereL l) (dense l) = 0 := by
    unfold jchk
    rw [if_neg (by simp [c1]), if_neg (by simp [c2]), if_neg (by rw [thereL_len]; omega), if_neg (by rw [cnt_there]; simp)]
  exact ⟨hj, by unfold jout; rw [if_pos hj, jn_back hok]⟩
end Hy.Cel
namespace Go.Proofs.Ytikdmnedbfpkeaa
open Go.RowKit Hy
theorem rd_below {w w1 w2 : World} {A : Option Addr} {cs : List Value} (h : Rd w A cs) (h1 : Below w.heap.size w w1) (h2 : Below w.heap.size w1 w2) : Rd w2 A cs := h.keep (Below.trans h1 h2)
set_option maxHeartbeats 2000000 in
theorem nullsJoin_bad (kind : Int) (r : List Cel) (A B : Option Addr) (n k ca cb : Nat) (i : Int) (er : Nat) (w : World)
    (e1 : ((er : Int) == 0) = false)
    (HJ : ∀ w', Ext w w' → Calls Try.prog 29 #[.int .i64 kind, .slice A k ca, .slice B n cb] w' fun e w'' => ∃ C c, e = .returned (.tuple #[.slice C r.length c, .int .i64 (er : Nat)]) ∧ Rd w'' C (cls r) ∧ Ext w' w'')
    (HO : ∀ w', Ext w w' → Calls Try.prog 31 #[.int .i64 kind, .slice A k ca, .slice B n cb] w' fun e w'' => ∃ C c, e = .returned (.tuple #[.slice C r.length c, .int .i64 (er : Nat)]) ∧ Rd w'' C (cls r) ∧ Ext w' w'')
    (HA : ∀ w', Ext w w' → Calls Try.prog 30 #[.int .i64 kind, .slice A k ca, .slice B n cb, .int .i64 i] w' fun e w'' => e = .returned (.tuple #[.agg #[.int .i64 0, .int .u64 0, .string ⟨#[]⟩], .int .i64 (er : Nat)]) ∧ Ext w' w'')
    (HS : ∀ w' B B' c c', Rd w' B (cls r) → Rd w' B' (cls r) → Calls Try.prog 27 #[.slice B r.length c, .slice B' r.length c'] w' fun e w'' => e = .returned (.bool true) ∧ Ext w' w'') :
    Calls Try.prog 9 #[.int .i64 kind, .slice A k ca, .slice B n cb, .int .i64 i] w fun e w' => e = .returned (.bool true) ∧ Ext w w' := by
  have X := hid (ext_refl w)
  have HJ := hid HJ
  have HO := hid HO
  have HA := hid HA
  have HS := hid HS
  obtain ⟨m, hm⟩ : ∃ m, m = r.length := ⟨_, rfl⟩
  rw [← hm] at HJ HO HS
  clear hm
  go_enter Try.func9, Try.ntmps9
  go_wp2_with fail
  refine Calls.mono (HJ.out _ X.out) ?_
  rintro e w1 ⟨C, c, rfl, h1, hx⟩
  replace X := hid (X.out.then hx)
  have RJ := hid h1
  clear hx h1
  go_wp2_with fail
  refine Calls.mono (HA.out _ X.out) ?_
  rintro e w2 ⟨rfl, hx⟩
  replace X := hid (X.out.then hx)
  replace RJ := hid (RJ.out.keep hx)
  clear hx 
  replace X := hid (Ext.new X.out (.cells #[.int .i64 0, .int .u64 0, .string ⟨#[]⟩] 25))
  replace RJ := hid (RJ.out.keep ((ext_refl _).new (.cells #[.int .i64 0, .int .u64 0, .string ⟨#[]⟩] 25)))
  have BA := hid (Blk.new w2 25 #[.int .i64 0, .int .u64 0, .string ⟨#[]⟩])
  go_wp2_with fail
  refine Calls.mono (HO.out _ X.out) ?_
  rintro e w3 ⟨D, d, rfl, h1, hx⟩
  replace X := hid (X.out.then hx)
  replace RJ := hid (RJ.out.keep hx)
  replace BA := hid (BA.out.keep hx)
  have RO := hid h1
  clear hx h1
  replace X := hid (Ext.new X.out (.cells #[.int .i64 0, .int .u64 0, .string ⟨#[]⟩] 25))
  replace RJ := hid (RJ.out.keep ((ext_refl _).new (.cells #[.int .i64 0, .int .u64 0, .string ⟨#[]⟩] 25)))
  replace BA := hid (BA.out.keep ((ext_refl _).new (.cells #[.int .i64 0, .int .u64 0, .string ⟨#[]⟩] 25)))
  replace RO := hid (RO.out.keep ((ext_refl _).new (.cells #[.int .i64 0, .int .u64 0, .string ⟨#[]⟩] 25)))
  have BW := hid (Blk.new w3 25 #[.int .i64 0, .int .u64 0, .string ⟨#[]⟩])
  go_wp2_with fail
  refine Calls.mono (nullsBegun_any _) ?_
  rintro e w5 ⟨rfl, hx⟩
  replace X := hid (X.out.then hx)
  replace RJ := hid (RJ.out.keep hx)
  replace BA := hid (BA.out.keep hx)
  replace RO := hid (RO.out.keep hx)
  replace BW := hid (BW.out.keep hx)
  clear hx 
  go_wp2_with fail
  refine Calls.mono (HS.out _ _ _ _ _ RJ.out RO.out) ?_
  rintro e w6 ⟨rfl, hx⟩
  replace X := hid (X.out.then hx)
  replace RJ := hid (RJ.out.keep hx)
  replace BA := hid (BA.out.keep hx)
  replace RO := hid (RO.out.keep hx)
  replace BW := hid (BW.out.keep hx)
  clear hx 
  obtain ⟨p0, p1, p2⟩ := BA.out.c3
  obtain ⟨q0, q1, q2⟩ := BW.out.c3
  go_wp2
  all_goals go_returns
  all_goals exact ⟨rfl, X.out⟩
set_option maxHeartbeats 2000000 in
theorem nullsJoin_low (kind : Int) (r : List Cel) (A B : Option Addr) (n k ca cb : Nat) (i : Int) (w : World)
    (hi : i < 0)
    (HJ : ∀ w', Ext w w' → Calls Try.prog 29 #[.int .i64 kind, .slice A k ca, .slice B n cb] w' fun e w'' => ∃ C c, e = .returned (.tuple #[.slice C r.length c, .int .i64 0]) ∧ Rd w'' C (cls r) ∧ Ext w' w'')
    (HO : ∀ w', Ext w w' → Calls Try.prog 31 #[.int .i64 kind, .slice A k ca, .slice B n cb] w' fun e w'' => ∃ C c, e = .returned (.tuple #[.slice C r.length c, .int .i64 0]) ∧ Rd w'' C (cls r) ∧ Ext w' w'')
    (HA : ∀ w', Ext w w' → Calls Try.prog 30 #[.int .i64 kind, .slice A k ca, .slice B n cb, .int .i64 i] w' fun e w'' => e = .returned (.tuple #[.agg #[.int .i64 0, .int .u64 0, .string ⟨#[]⟩], .int .i64 3]) ∧ Ext w' w'')
    (HS : ∀ w' B B' c c', Rd w' B (cls r) → Rd w' B' (cls r) → Calls Try.prog 27 #[.slice B r.length c, .slice B' r.length c'] w' fun e w'' => e = .returned (.bool true) ∧ Ext w' w'') :
    Calls Try.prog 9 #[.int .i64 kind, .slice A k ca, .slice B n cb, .int .i64 i] w fun e w' => e = .returned (.bool true) ∧ Ext w w' := by
  have X := hid (ext_refl w)
  have HJ := hid HJ
  have HO := hid HO
  have HA := hid HA
  have HS := hid HS
  obtain ⟨m, hm⟩ : ∃ m, m = r.length := ⟨_, rfl⟩
  rw [← hm] at HJ HO HS
  clear hm
  go_enter Try.func9, Try.ntmps9
  go_wp2_with fail
  refine Calls.mono (HJ.out _ X.out) ?_
  rintro e w1 ⟨C, c, rfl, h1, hx⟩
  replace X := hid (X.out.then hx)
  have RJ := hid h1
  clear hx h1
  go_wp2_with fail
  refine Calls.mono (HA.out _ X.out) ?_
  rintro e w2 ⟨rfl, hx⟩
  replace X := hid (X.out.then hx)
  replace RJ := hid (RJ.out.keep hx)
  clear hx 
  replace X := hid (Ext.new X.out (.cells #[.int .i64 0, .int .u64 0, .string ⟨#[]⟩] 25))
  replace RJ := hid (RJ.out.keep ((ext_refl _).new (.cells #[.int .i64 0, .int .u64 0, .string ⟨#[]⟩] 25)))
  have BA := hid (Blk.new w2 25 #[.int .i64 0, .int .u64 0, .string ⟨#[]⟩])
  go_wp2_with fail
  refine Calls.mono (HO.out _ X.out) ?_
  rintro e w3 ⟨D, d, rfl, h1, hx⟩
  replace X := hid (X.out.then hx)
  replace RJ := hid (RJ.out.keep hx)
  replace BA := hid (BA.out.keep hx)
  have RO := hid h1
  clear hx h1
  replace X := hid (Ext.new X.out (.cells #[.int .i64 0, .int .u64 0, .string ⟨#[]⟩] 25))
  replace RJ := hid (RJ.out.keep ((ext_refl _).new (.cells #[.int .i64 0, .int .u64 0, .string ⟨#[]⟩] 25)))
  replace BA := hid (BA.out.keep ((ext_refl _).new (.cells #[.int .i64 0, .int .u64 0, .string ⟨#[]⟩] 25)))
  replace RO := hid (RO.out.keep ((ext_refl _).new (.cells #[.int .i64 0, .int .u64 0, .string ⟨#[]⟩] 25)))
  have BW := hid (Blk.new w3 25 #[.int .i64 0, .int .u64 0, .string ⟨#[]⟩])
  go_wp2_with fail
  refine Calls.mono (nullsBegun_any _) ?_
  rintro e w5 ⟨rfl, hx⟩
  replace X := hid (X.out.then hx)
  replace RJ := hid (RJ.out.keep hx)
  replace BA := hid (BA.out.keep hx)
  replace RO := hid (RO.out.keep hx)
  replace BW := hid (BW.out.keep hx)
  clear hx 
  go_wp2_with fail
  refine Calls.mono (HS.out _ _ _ _ _ RJ.out RO.out) ?_
  rintro e w6 ⟨rfl, hx⟩
  replace X := hid (X.out.then hx)
  replace RJ := hid (RJ.out.keep hx)
  replace BA := hid (BA.out.keep hx)
  replace RO := hid (RO.out.keep hx)
  replace BW := hid (BW.out.keep hx)
  clear hx 
  obtain ⟨p0, p1, p2⟩ := BA.out.c3
  obtain ⟨q0, q1, q2⟩ := BW.out.c3
  go_wp2
  all_goals go_returns
  all_goals exact ⟨rfl, X.out⟩
set_option maxHeartbeats 2000000 in
theorem nullsJoin_high (kind : Int) (r : List Cel) (A B : Option Addr) (n k ca cb : Nat) (i : Int) (w : World)
    (h0 : 0 ≤ i) (hi : (k : Int) ≤ i)
    (HJ : ∀ w', Ext w w' → Calls Try.prog 29 #[.int .i64 kind, .slice A k ca, .slice B n cb] w' fun e w'' => ∃ C c, e = .returned (.tuple #[.slice C r.length c, .int .i64 0]) ∧ Rd w'' C (cls r) ∧ Ext w' w'')
    (HO : ∀ w', Ext w w' → Calls Try.prog 31 #[.int .i64 kind, .slice A k ca, .slice B n cb] w' fun e w'' => ∃ C c, e = .returned (.tuple #[.slice C r.length c, .int .i64 0]) ∧ Rd w'' C (cls r) ∧ Ext w' w'')
    (HA : ∀ w', Ext w w' → Calls Try.prog 30 #[.int .i64 kind, .slice A k ca, .slice B n cb, .int .i64 i] w' fun e w'' => e = .returned (.tuple #[.agg #[.int .i64 0, .int .u64 0, .string ⟨#[]⟩], .int .i64 3]) ∧ Ext w' w'')
    (HS : ∀ w' B B' c c', Rd w' B (cls r) → Rd w' B' (cls r) → Calls Try.prog 27 #[.slice B r.length c, .slice B' r.length c'] w' fun e w'' => e = .returned (.bool true) ∧ Ext w' w'') :
    Calls Try.prog 9 #[.int .i64 kind, .slice A k ca, .slice B n cb, .int .i64 i] w fun e w' => e = .returned (.bool true) ∧ Ext w w' := by
  have X := hid (ext_refl w)
  have HJ := hid HJ
  have HO := hid HO
  have HA := hid HA
  have HS := hid HS
  obtain ⟨m, hm⟩ : ∃ m, m = r.length := ⟨_, rfl⟩
  rw [← hm] at HJ HO HS
  clear hm
  go_enter Try.func9, Try.ntmps9
  go_wp2_with fail
  refine Calls.mono (HJ.out _ X.out) ?_
  rintro e w1 ⟨C, c, rfl, h1, hx⟩
  replace X := hid (X.out.then hx)
  have RJ := hid h1
  clear hx h1
  go_wp2_with fail
  refine Calls.mono (HA.out _ X.out) ?_
  rintro e w2 ⟨rfl, hx⟩
  replace X := hid (X.out.then hx)
  replace RJ := hid (RJ.out.keep hx)
  clear hx 
  replace X := hid (Ext.new X.out (.cells #[.int .i64 0, .int .u64 0, .string ⟨#[]⟩] 25))
  replace RJ := hid (RJ.out.keep ((ext_refl _).new (.cells #[.int .i64 0, .int .u64 0, .string ⟨#[]⟩] 25)))
  have BA := hid (Blk.new w2 25 #[.int .i64 0, .int .u64 0, .string ⟨#[]⟩])
  go_wp2_with fail
  refine Calls.mono (HO.out _ X.out) ?_
  rintro e w3 ⟨D, d, rfl, h1, hx⟩
  replace X := hid (X.out.then hx)
  replace RJ := hid (RJ.out.keep hx)
  replace BA := hid (BA.out.keep hx)
  have RO := hid h1
  clear hx h1
  replace X := hid (Ext.new X.out (.cells #[.int .i64 0, .int .u64 0, .string ⟨#[]⟩] 25))
  replace RJ := hid (RJ.out.keep ((ext_refl _).new (.cells #[.int .i64 0, .int .u64 0, .string ⟨#[]⟩] 25)))
  replace BA := hid (BA.out.keep ((ext_refl _).new (.cells #[.int .i64 0, .int .u64 0, .string ⟨#[]⟩] 25)))
  replace RO := hid (RO.out.keep ((ext_refl _).new (.cells #[.int .i64 0, .int .u64 0, .string ⟨#[]⟩] 25)))
  have BW := hid (Blk.new w3 25 #[.int .i64 0, .int .u64 0, .string ⟨#[]⟩])
  go_wp2_with fail
  refine Calls.mono (nullsBegun_any _) ?_
  rintro e w5 ⟨rfl, hx⟩
  replace X := hid (X.out.then hx)
  replace RJ := hid (RJ.out.keep hx)
  replace BA := hid (BA.out.keep hx)
  replace RO := hid (RO.out.keep hx)
  replace BW := hid (BW.out.keep hx)
  clear hx 
  go_wp2_with fail
  refine Calls.mono (HS.out _ _ _ _ _ RJ.out RO.out) ?_
  rintro e w6 ⟨rfl, hx⟩
  replace X := hid (X.out.then hx)
  replace RJ := hid (RJ.out.keep hx)
  replace BA := hid (BA.out.keep hx)
  replace RO := hid (RO.out.keep hx)
  replace BW := hid (BW.out.keep hx)
  clear hx 
  obtain ⟨p0, p1, p2⟩ := BA.out.c3
  obtain ⟨q0, q1, q2⟩ := BW.out.c3
  go_wp2
  all_goals go_returns
  all_goals exact ⟨rfl, X.out⟩
set_option maxHeartbeats 2000000 in
theorem nullsJoin_in (kind : Int) (r : List Cel) (A B : Option Addr) (n k ca cb : Nat) (i : Nat) (ck : Int) (cn : Nat) (cs : ByteArray) (w : World)
    (hk : (i : Int) < (k : Int)) (hr0 : i < r.length) (hsz : r.length ≤ 140737488355328) (hat : r[i] = (ck, cn, cs))
    (HJ : ∀ w', Ext w w' → Calls Try.prog 29 #[.int .i64 kind, .slice A k ca, .slice B n cb] w' fun e w'' => ∃ C c, e = .returned (.tuple #[.slice C r.length c, .int .i64 0]) ∧ Rd w'' C (cls r) ∧ Ext w' w'')
    (HO : ∀ w', Ext w w' → Calls Try.prog 31 #[.int .i64 kind, .slice A k ca, .slice B n cb] w' fun e w'' => ∃ C c, e = .returned (.tuple #[.slice C r.length c, .int .i64 0]) ∧ Rd w'' C (cls r) ∧ Ext w' w'')
    (HA : ∀ w', Ext w w' → Calls Try.prog 30 #[.int .i64 kind, .slice A k ca, .slice B n cb, .int .i64 i] w' fun e w'' => e = .returned (.tuple #[.agg #[.int .i64 ck, .int .u64 (cn : Nat), .string cs], .int .i64 0]) ∧ Ext w' w'')
    (HS : ∀ w' B B' c c', Rd w' B (cls r) → Rd w' B' (cls r) → Calls Try.prog 27 #[.slice B r.length c, .slice B' r.length c'] w' fun e w'' => e = .returned (.bool true) ∧ Ext w' w'') :
    Calls Try.prog 9 #[.int .i64 kind, .slice A k ca, .slice B n cb, .int .i64 i] w fun e w' => e = .returned (.bool true) ∧ Ext w w' := by
  have X := hid (ext_refl w)
  have HJ := hid HJ
  have HO := hid HO
  have HA := hid HA
  have HS := hid HS
  have HSZ := hid hsz
  have HAT := hid hat
  clear hsz hat
  obtain ⟨m, hm⟩ : ∃ m, m = r.length := ⟨_, rfl⟩
  rw [← hm] at HJ HO HS
  have hmI : (i : Int) < (m : Int) := by rw [hm]; omega
  have hmL : (m : Int) ≤ 140737488355328 := by have := HSZ.out; omega
  have HM := hid hm
  clear hm
  go_enter Try.func9, Try.ntmps9
  go_wp2_with fail
  refine Calls.mono (HJ.out _ X.out) ?_
  rintro e w1 ⟨C, c, rfl, h1, hx⟩
  replace X := hid (X.out.then hx)
  have RJ := hid h1
  clear hx h1
  go_wp2_with fail
  refine Calls.mono (HA.out _ X.out) ?_
  rintro e w2 ⟨rfl, hx⟩
  replace X := hid (X.out.then hx)
  replace RJ := hid (RJ.out.keep hx)
  clear hx 
  replace X := hid (Ext.new X.out (.cells #[.int .i64 ck, .int .u64 (cn : Nat), .string cs] 25))
  replace RJ := hid (RJ.out.keep ((ext_refl _).new (.cells #[.int .i64 ck, .int .u64 (cn : Nat), .string cs] 25)))
  have BA := hid (Blk.new w2 25 #[.int .i64 ck, .int .u64 (cn : Nat), .string cs])
  go_wp2_with fail
  refine Calls.mono (HO.out _ X.out) ?_
  rintro e w3 ⟨D, d, rfl, h1, hx⟩
  replace X := hid (X.out.then hx)
  replace RJ := hid (RJ.out.keep hx)
  replace BA := hid (BA.out.keep hx)
  have RO := hid h1
  clear hx h1
  have X3 := X
  have RJ3 := RJ
  have RO3 := RO
  have HLT := hid BA.out.lt
  have HLE := hid X.out.size
  replace X := hid (Ext.new X.out (.cells #[.int .i64 0, .int .u64 0, .string ⟨#[]⟩] 25))
  replace RJ := hid (RJ.out.keep ((ext_refl _).new (.cells #[.int .i64 0, .int .u64 0, .string ⟨#[]⟩] 25)))
  replace BA := hid (BA.out.keep ((ext_refl _).new (.cells #[.int .i64 0, .int .u64 0, .string ⟨#[]⟩] 25)))
  replace RO := hid (RO.out.keep ((ext_refl _).new (.cells #[.int .i64 0, .int .u64 0, .string ⟨#[]⟩] 25)))
  have BW := hid (Blk.new w3 25 #[.int .i64 0, .int .u64 0, .string ⟨#[]⟩])
  obtain ⟨b2, o2, rfl, l2, c2⟩ := RO.out.cels i (by rw [← HM.out]; omega)
  have hc := c2 i (by rw [← HM.out]; omega)
  rw [HAT.out] at hc
  have d0 := hc.1
  have d1 := hc.2.1
  have d2 := hc.2.2
  clear c2 hc l2
  have hne := hid (show w2.heap.size ≠ w3.heap.size from Nat.ne_of_lt HLT.out)
  have BJ := hid RJ.out
  go_wp2_with (with_reducible (show wpList _ _ _ (⟨none, .store 25 (.tmp 16) (.tmp 54), _, _, _, _⟩ :: _) _ _); go_loud (refine wpList_store_blk rfl 25 (.tmp 16) (.tmp 54) rfl w3.heap.size #[.int .i64 ck, .int .u64 (cn : Nat), .string cs] rfl rfl 25 _ BW.out (by kernel_rfl) rfl (by simp [Value.oneCell']) w3.heap.size (Nat.le_refl _) ?_; intro w4 hB4 hF4 hL4; have X4 : Hid (Ext w w4) := hid (Below.trans (Ext.new X3.out (.cells #[.int .i64 0, .int .u64 0, .string ⟨#[]⟩] 25)) (Below.mono hL4 HLE.out)); have BA4 := hid (hF4 _ _ _ hne.out BA.out); have BW4 := hid hB4; have RJ4 := hid (rd_below RJ3.out ((Below.refl _ _).alloc (Nat.le_refl _) _) hL4); have RO4 := hid (rd_below RO3.out ((Below.refl _ _).alloc (Nat.le_refl _) _) hL4); clear hB4 hF4 hL4; clear d0 d1 d2))
  clear X BA BW RJ RO BJ
  have X := X4
  have BA := BA4
  have BW := BW4
  have RJ := RJ4
  have RO := RO4
  clear X4 BA4 BW4 RJ4 RO4
  refine Calls.mono (nullsBegun_any _) ?_
  rintro e w5 ⟨rfl, hx⟩
  replace X := hid (X.out.then hx)
  replace RJ := hid (RJ.out.keep hx)
  replace RO := hid (RO.out.keep hx)
  replace BA := hid (BA.out.keep hx)
  replace BW := hid (BW.out.keep hx)
  clear hx
  go_wp2_with fail
  refine Calls.mono (HS.out _ _ _ _ _ RJ.out RO.out) ?_
  rintro e w6 ⟨rfl, hx⟩
  replace X := hid (X.out.then hx)
  replace RJ := hid (RJ.out.keep hx)
  replace RO := hid (RO.out.keep hx)
  replace BA := hid (BA.out.keep hx)
  replace BW := hid (BW.out.keep hx)
  clear hx 
  obtain ⟨p0, p1, p2⟩ := BA.out.c3
  obtain ⟨q0, q1, q2⟩ := BW.out.c3
  go_wp2
  all_goals go_returns
  all_goals exact ⟨rfl, X.out⟩
theorem nullsJoin_walk (kind : Int) (m : List Bool) (l : List Cel) (i : Int) (A B : Option Addr) (n k ca cb : Nat) (w : World) (hm : m.length = k) (hrm : Rd w A (bls m)) (hn : l.length = n) (hr : Rd w B (cls l)) (hca : k ≤ ca) (hcb : n ≤ cb) (hkl : k ≤ 140737488355328) (hnl : n ≤ 140737488355328) :
    Calls Try.prog 9 #[.int .i64 kind, .slice A k ca, .slice B n cb, .int .i64 i] w fun e w' => e = .returned (.bool true) ∧ Ext w w' := by
  have HJ := fun w' (hx : Ext w w') => join_any kind m l A B n k ca cb w' hm (hrm.keep hx) hn (hr.keep hx) hcb hkl hnl
  have HO := fun w' (hx : Ext w w') => joinOf_any kind m l A B n k ca cb w' hm (hrm.keep hx) hn (hr.keep hx) hkl hnl
  have HA := fun w' (hx : Ext w w') => at_any kind m l i A B n k ca cb w' hm (hrm.keep hx) hn (hr.keep hx) hca hkl hnl
  have hrl : (Cel.jout kind m l).length ≤ 140737488355328 := by
    unfold Cel.jout
    split
    · rw [Cel.jn_len]; omega
    · simp
  have HS := fun w' B B' c c' (h1 : Rd w' B (cls (Cel.jout kind m l))) (h2 : Rd w' B' (cls (Cel.jout kind m l))) => sameCells_any _ _ B B' _ _ c c' w' rfl rfl h1 h2 hrl
  simp only [decide_true] at HS
  by_cases hj : Cel.jchk kind m l = 0
  · rw [hj] at HJ HO
    by_cases h0 : i < 0
    · have e : Cel.atE kind m l i = 3 := by unfold Cel.atE; rw [if_neg (by simp [hj]), if_pos (.inl h0)]
      have e2 : Cel.atC kind m l i = Cel.O := by unfold Cel.atC; rw [if_neg (by rw [e]; decide)]
      rw [e, e2] at HA
      exact nullsJoin_low kind _ A B n k ca cb i w h0 HJ HO HA HS
    · by_cases h1 : (k : Int) ≤ i
      · have e : Cel.atE kind m l i = 3 := by unfold Cel.atE; rw [if_neg (by simp [hj]), if_pos (.inr (by rw [hm]; exact h1))]
        have e2 : Cel.atC kind m l i = Cel.O := by unfold Cel.atC; rw [if_neg (by rw [e]; decide)]
        rw [e, e2] at HA
        exact nullsJoin_high kind _ A B n k ca cb i w (by omega) h1 HJ HO HA HS
      · obtain ⟨j, rfl⟩ : ∃ j : Nat, i = j := ⟨i.toNat, by omega⟩
        have e : Cel.atE kind m l j = 0 := by unfold Cel.atE; rw [if_neg (by simp [hj]), if_neg (by rw [hm]; omega)]
        have e2 : Cel.atC kind m l j = Cel.jat m l j := by unfold Cel.atC; rw [if_pos e]; rfl
        rw [e, e2] at HA
        have hjo : Cel.jout kind m l = Cel.jn m l := by unfold Cel.jout; rw [if_pos hj]
        have hlen : (Cel.jout kind m l).length = k := by rw [hjo, Cel.jn_len, hm]
        have hjk : j < (Cel.jout kind m l).length := by rw [hlen]; omega
        have hat : (Cel.jout kind m l)[j] = Cel.jat m l j := by
          simp only [hjo]
          simp only [Cel.jn, List.getElem_map, List.getElem_range]
        exact nullsJoin_in kind _ A B n k ca cb j _ _ _ w (by omega) hjk hrl hat HJ HO HA HS
  · have e : Cel.atE kind m l i = Cel.jchk kind m l := by unfold Cel.atE; rw [if_pos hj]
    have e2 : Cel.atC kind m l i = Cel.O := by unfold Cel.atC; rw [if_neg (by rw [e]; exact hj)]
    rw [e, e2] at HA
    exact nullsJoin_bad kind _ A B n k ca cb i _ w (by rw [beq_eq_false_iff_ne]; omega) HJ HO HA HS
end Go.Proofs.Ytikdmnedbfpkeaa
