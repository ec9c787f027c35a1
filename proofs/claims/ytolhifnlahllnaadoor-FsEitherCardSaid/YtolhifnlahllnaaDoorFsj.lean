/- Files: form, opCheck: walks . -/
import Derived.Test.YtolhifnlahllnaaDoorFsa
import Derived.Test.YtolhifnlahllnaaDoorTnb
namespace Hy.Fs
open Go
/-- an op: its kind, name, new name, text -/
abbrev Opn := Int × ByteArray × ByteArray × ByteArray
abbrev opV (o : Opn) : Value := .agg #[.int .i64 o.1, .string o.2.1, .string o.2.2.1, .string o.2.2.2]
def emp (s : ByteArray) : Bool := s.toList == []
/-- what is wrong with the form of an op -/
@[irreducible] def opck (o : Opn) : Nat :=
  if o.1 < 1 ∨ 5 < o.1 then 7 else
  if (o.1 = 5 ∧ emp o.2.1 = false) ∨ (o.1 ≠ 5 ∧ Nm.nm o.2.1.data.toList = false) ∨ (o.1 = 3 ∧ Nm.nm o.2.2.1.data.toList = false) ∨ (o.1 ≠ 3 ∧ emp o.2.2.1 = false) ∨ (o.1 ≠ 1 ∧ emp o.2.2.2 = false) then 1 else
  if 65536 < o.2.2.2.size then 2 else 0
theorem opck_eq (kk : Int) (nn tt xx : ByteArray) : opck (kk, nn, tt, xx) = if kk < 1 ∨ 5 < kk then 7 else
  if (kk = 5 ∧ nn.toList.isEmpty = false) ∨ (kk ≠ 5 ∧ Nm.nm nn.data.toList = false) ∨ (kk = 3 ∧ Nm.nm tt.data.toList = false) ∨ (kk ≠ 3 ∧ tt.toList.isEmpty = false) ∨ (kk ≠ 1 ∧ xx.toList.isEmpty = false) then 1 else
  if (65536 : Int) < (xx.size : Int) then 2 else 0 := by
  have e : ∀ s : ByteArray, emp s = s.toList.isEmpty := fun s => by unfold emp; cases s.toList <;> rfl
  unfold opck; simp only [e]
  congr 3
  exact propext (by omega)
theorem nm_isE {s : ByteArray} (h : s.toList.isEmpty = true) : Nm.nm s.data.toList = false := by
  rw [ByteArray.toList_eq] at h
  rw [List.isEmpty_iff.1 h]; unfold Nm.nm; simp
theorem nm_emp {s : ByteArray} (h : emp s = true) : Nm.nm s.data.toList = false := by
  unfold emp at h
  rw [ByteArray.toList_eq] at h
  have h2 : s.data.toList = [] := by simpa using h
  rw [h2]; unfold Nm.nm; simp
theorem emp_nm {s : ByteArray} (h : Nm.nm s.data.toList = true) : emp s = false := by
  cases he : emp s
  · rfl
  · rw [nm_emp he] at h; cases h
theorem emp_size {s : ByteArray} (h : emp s = true) : s.size = 0 := by
  unfold emp at h
  rw [ByteArray.toList_eq] at h
  have h2 : s.data.toList = [] := by simpa using h
  rw [ByteArray.size, ← Array.length_toList, h2]; rfl
theorem emp_eq {s : ByteArray} (h : emp s = true) : s.toList = [] := by unfold emp at h; simpa using h
theorem emp_ne {s : ByteArray} (h : emp s = false) : ¬ s.toList = [] := by unfold emp at h; simpa using h
end Hy.Fs
namespace Go.Proofs.YtolhifnlahllnaaDoor
open Go.RowKit Hy
set_option maxHeartbeats 3200000 in
set_option maxRecDepth 100000 in
theorem form_any (kk : Int) (nn tt xx : ByteArray) (w : World) (hn : nn.size ≤ 140737488355328) (ht : tt.size ≤ 140737488355328) (hx : xx.size ≤ 140737488355328) :
    Calls Tryd.prog 37 #[Fs.opV (kk, nn, tt, xx)] w fun e w' => e = .returned (.int .i64 (Fs.opck (kk, nn, tt, xx) : Nat)) ∧ Ext w w' := by
  have HNA := hid (fun wx => name_any nn wx hn)
  have HNT := hid (fun wx => name_any tt wx ht)
  have hxI : (xx.size : Int) ≤ 140737488355328 := by omega
  have XN := hid (Ext.new (ext_refl w) (.cells #[.int .i64 kk, .string nn, .string tt, .string xx] 27))
  have BN := hid (Blk.new w 27 #[.int .i64 kk, .string nn, .string tt, .string xx])
  show Calls _ _ #[.agg #[.int .i64 kk, .string nn, .string tt, .string xx]] w _
  obtain ⟨m1, hm1⟩ : ∃ m, m = Nm.nm nn.data.toList := ⟨_, rfl⟩
  obtain ⟨m2, hm2⟩ : ∃ m, m = Nm.nm tt.data.toList := ⟨_, rfl⟩
  rw [← hm1] at HNA
  rw [← hm2] at HNT
  have HV := hid (Fs.opck_eq kk nn tt xx)
  have HE1 := hid (show nn.toList.isEmpty = true → m1 = false from fun h => hm1.trans (Fs.nm_isE h))
  have HE2 := hid (show tt.toList.isEmpty = true → m2 = false from fun h => hm2.trans (Fs.nm_isE h))
  rw [← hm1, ← hm2] at HV
  obtain ⟨R, hR⟩ : ∃ R, R = Fs.opck (kk, nn, tt, xx) := ⟨_, rfl⟩
  rw [← hR] at HV
  rw [← hR]
  clear hn ht hx hm1 hm2 hR
  obtain hk | hk | hk | hk | hk | hk | hk : kk < 1 ∨ 5 < kk ∨ kk = 1 ∨ kk = 2 ∨ kk = 3 ∨ kk = 4 ∨ kk = 5 := by omega
  · go_enter Tryd.func37, Tryd.ntmps37
    go_wp2_with (first | (go_at_call 88; refine Calls.mono (HNA.out _) ?_; rintro e w1 ⟨rfl, x1⟩; have X1 := hid x1; have B1 := hid (BN.out.keep x1); have a0 := B1.out.cell 0; have a1 := B1.out.cell 1; have a2 := B1.out.cell 2; have a3 := B1.out.cell 3; clear x1 HNA) | (go_at_call 88; refine Calls.mono (HNT.out _) ?_; rintro e w2 ⟨rfl, x2⟩; have X2 := hid (X1.out.then x2); have B2 := hid (B1.out.keep x2); have c0 := B2.out.cell 0; have c1 := B2.out.cell 1; have c2 := B2.out.cell 2; have c3 := B2.out.cell 3; clear x2 a0 a1 a2 a3))
    all_goals go_returns
    all_goals refine ⟨ret_int ?_, by first | exact XN.out | exact XN.out.then X2.out | exact XN.out.then X1.out⟩
    all_goals (have hv := HV.out; have hE1 := HE1.out; have hE2 := HE2.out; clear HV HE1 HE2 XN BN; try clear X2 B2; try clear X1 B1)
    all_goals (simp_all <;> (first | omega | (split <;> omega)))
  · have h1n : 1 ≤ kk := by omega
    go_enter Tryd.func37, Tryd.ntmps37
    go_wp2_with (first | (go_at_call 88; refine Calls.mono (HNA.out _) ?_; rintro e w1 ⟨rfl, x1⟩; have X1 := hid x1; have B1 := hid (BN.out.keep x1); have a0 := B1.out.cell 0; have a1 := B1.out.cell 1; have a2 := B1.out.cell 2; have a3 := B1.out.cell 3; clear x1 HNA) | (go_at_call 88; refine Calls.mono (HNT.out _) ?_; rintro e w2 ⟨rfl, x2⟩; have X2 := hid (X1.out.then x2); have B2 := hid (B1.out.keep x2); have c0 := B2.out.cell 0; have c1 := B2.out.cell 1; have c2 := B2.out.cell 2; have c3 := B2.out.cell 3; clear x2 a0 a1 a2 a3))
    all_goals go_returns
    all_goals refine ⟨ret_int ?_, by first | exact XN.out | exact XN.out.then X2.out | exact XN.out.then X1.out⟩
    all_goals (have hv := HV.out; have hE1 := HE1.out; have hE2 := HE2.out; clear HV HE1 HE2 XN BN; try clear X2 B2; try clear X1 B1)
    all_goals (simp_all <;> (first | omega | (split <;> omega)))
  · subst hk
    go_enter Tryd.func37, Tryd.ntmps37
    go_wp2_with (first | (go_at_call 88; refine Calls.mono (HNA.out _) ?_; rintro e w1 ⟨rfl, x1⟩; have X1 := hid x1; have B1 := hid (BN.out.keep x1); have a0 := B1.out.cell 0; have a1 := B1.out.cell 1; have a2 := B1.out.cell 2; have a3 := B1.out.cell 3; clear x1 HNA) | (go_at_call 88; refine Calls.mono (HNT.out _) ?_; rintro e w2 ⟨rfl, x2⟩; have X2 := hid (X1.out.then x2); have B2 := hid (B1.out.keep x2); have c0 := B2.out.cell 0; have c1 := B2.out.cell 1; have c2 := B2.out.cell 2; have c3 := B2.out.cell 3; clear x2 a0 a1 a2 a3))
    all_goals go_returns
    all_goals refine ⟨ret_int ?_, by first | exact XN.out | exact XN.out.then X2.out | exact XN.out.then X1.out⟩
    all_goals (have hv := HV.out; have hE1 := HE1.out; have hE2 := HE2.out; clear HV HE1 HE2 XN BN; try clear X2 B2; try clear X1 B1)
    all_goals (simp_all <;> (first | omega | (split <;> omega)))
  · subst hk
    go_enter Tryd.func37, Tryd.ntmps37
    go_wp2_with (first | (go_at_call 88; refine Calls.mono (HNA.out _) ?_; rintro e w1 ⟨rfl, x1⟩; have X1 := hid x1; have B1 := hid (BN.out.keep x1); have a0 := B1.out.cell 0; have a1 := B1.out.cell 1; have a2 := B1.out.cell 2; have a3 := B1.out.cell 3; clear x1 HNA) | (go_at_call 88; refine Calls.mono (HNT.out _) ?_; rintro e w2 ⟨rfl, x2⟩; have X2 := hid (X1.out.then x2); have B2 := hid (B1.out.keep x2); have c0 := B2.out.cell 0; have c1 := B2.out.cell 1; have c2 := B2.out.cell 2; have c3 := B2.out.cell 3; clear x2 a0 a1 a2 a3))
    all_goals go_returns
    all_goals refine ⟨ret_int ?_, by first | exact XN.out | exact XN.out.then X2.out | exact XN.out.then X1.out⟩
    all_goals (have hv := HV.out; have hE1 := HE1.out; have hE2 := HE2.out; clear HV HE1 HE2 XN BN; try clear X2 B2; try clear X1 B1)
    all_goals (simp_all <;> (first | omega | (split <;> omega)))
  · subst hk
    go_enter Tryd.func37, Tryd.ntmps37
    go_wp2_with (first | (go_at_call 88; refine Calls.mono (HNA.out _) ?_; rintro e w1 ⟨rfl, x1⟩; have X1 := hid x1; have B1 := hid (BN.out.keep x1); have a0 := B1.out.cell 0; have a1 := B1.out.cell 1; have a2 := B1.out.cell 2; have a3 := B1.out.cell 3; clear x1 HNA) | (go_at_call 88; refine Calls.mono (HNT.out _) ?_; rintro e w2 ⟨rfl, x2⟩; have X2 := hid (X1.out.then x2); have B2 := hid (B1.out.keep x2); have c0 := B2.out.cell 0; have c1 := B2.out.cell 1; have c2 := B2.out.cell 2; have c3 := B2.out.cell 3; clear x2 a0 a1 a2 a3))
    all_goals go_returns
    all_goals refine ⟨ret_int ?_, by first | exact XN.out | exact XN.out.then X2.out | exact XN.out.then X1.out⟩
    all_goals (have hv := HV.out; have hE1 := HE1.out; have hE2 := HE2.out; clear HV HE1 HE2 XN BN; try clear X2 B2; try clear X1 B1)
    all_goals (simp_all <;> (first | omega | (split <;> omega)))
  · subst hk
    go_enter Tryd.func37, Tryd.ntmps37
    go_wp2_with (first | (go_at_call 88; refine Calls.mono (HNA.out _) ?_; rintro e w1 ⟨rfl, x1⟩; have X1 := hid x1; have B1 := hid (BN.out.keep x1); have a0 := B1.out.cell 0; have a1 := B1.out.cell 1; have a2 := B1.out.cell 2; have a3 := B1.out.cell 3; clear x1 HNA) | (go_at_call 88; refine Calls.mono (HNT.out _) ?_; rintro e w2 ⟨rfl, x2⟩; have X2 := hid (X1.out.then x2); have B2 := hid (B1.out.keep x2); have c0 := B2.out.cell 0; have c1 := B2.out.cell 1; have c2 := B2.out.cell 2; have c3 := B2.out.cell 3; clear x2 a0 a1 a2 a3))
    all_goals go_returns
    all_goals refine ⟨ret_int ?_, by first | exact XN.out | exact XN.out.then X2.out | exact XN.out.then X1.out⟩
    all_goals (have hv := HV.out; have hE1 := HE1.out; have hE2 := HE2.out; clear HV HE1 HE2 XN BN; try clear X2 B2; try clear X1 B1)
    all_goals (simp_all <;> (first | omega | (split <;> omega)))
  · subst hk
    go_enter Tryd.func37, Tryd.ntmps37
    go_wp2_with (first | (go_at_call 88; refine Calls.mono (HNA.out _) ?_; rintro e w1 ⟨rfl, x1⟩; have X1 := hid x1; have B1 := hid (BN.out.keep x1); have a0 := B1.out.cell 0; have a1 := B1.out.cell 1; have a2 := B1.out.cell 2; have a3 := B1.out.cell 3; clear x1 HNA) | (go_at_call 88; refine Calls.mono (HNT.out _) ?_; rintro e w2 ⟨rfl, x2⟩; have X2 := hid (X1.out.then x2); have B2 := hid (B1.out.keep x2); have c0 := B2.out.cell 0; have c1 := B2.out.cell 1; have c2 := B2.out.cell 2; have c3 := B2.out.cell 3; clear x2 a0 a1 a2 a3))
    all_goals go_returns
    all_goals refine ⟨ret_int ?_, by first | exact XN.out | exact XN.out.then X2.out | exact XN.out.then X1.out⟩
    all_goals (have hv := HV.out; have hE1 := HE1.out; have hE2 := HE2.out; clear HV HE1 HE2 XN BN; try clear X2 B2; try clear X1 B1)
    all_goals (simp_all <;> (first | omega | (split <;> omega)))
set_option maxHeartbeats 3200000 in
set_option maxRecDepth 100000 in
theorem opCheck_any (kk : Int) (nn tt xx : ByteArray) (w : World) (hn : nn.size ≤ 140737488355328) (ht : tt.size ≤ 140737488355328) (hx : xx.size ≤ 140737488355328) :
    Calls Tryd.prog 44 #[Fs.opV (kk, nn, tt, xx)] w fun e w' => e = .returned (.int .i64 (Fs.opck (kk, nn, tt, xx) : Nat)) ∧ Ext w w' := by
  have HNA := hid (fun wx => nameCheck_any nn wx hn)
  have HNT := hid (fun wx => nameCheck_any tt wx ht)
  have hxI : (xx.size : Int) ≤ 140737488355328 := by omega
  have XN := hid (Ext.new (ext_refl w) (.cells #[.int .i64 kk, .string nn, .string tt, .string xx] 27))
  have BN := hid (Blk.new w 27 #[.int .i64 kk, .string nn, .string tt, .string xx])
  show Calls _ _ #[.agg #[.int .i64 kk, .string nn, .string tt, .string xx]] w _
  obtain ⟨m1, hm1⟩ : ∃ m, m = Nm.nm nn.data.toList := ⟨_, rfl⟩
  obtain ⟨m2, hm2⟩ : ∃ m, m = Nm.nm tt.data.toList := ⟨_, rfl⟩
  rw [← hm1] at HNA
  rw [← hm2] at HNT
  have HV := hid (Fs.opck_eq kk nn tt xx)
  have HE1 := hid (show nn.toList.isEmpty = true → m1 = false from fun h => hm1.trans (Fs.nm_isE h))
  have HE2 := hid (show tt.toList.isEmpty = true → m2 = false from fun h => hm2.trans (Fs.nm_isE h))
  rw [← hm1, ← hm2] at HV
  obtain ⟨R, hR⟩ : ∃ R, R = Fs.opck (kk, nn, tt, xx) := ⟨_, rfl⟩
  rw [← hR] at HV
  rw [← hR]
  clear hn ht hx hm1 hm2 hR
  obtain hk | hk | hk | hk | hk | hk | hk : kk < 1 ∨ 5 < kk ∨ kk = 1 ∨ kk = 2 ∨ kk = 3 ∨ kk = 4 ∨ kk = 5 := by omega
  · go_enter Tryd.func44, Tryd.ntmps44
    go_wp2_with (first | (go_at_call 96; refine Calls.mono (HNA.out _) ?_; rintro e _ ⟨rfl, rfl⟩; clear HNA) | (go_at_call 96; refine Calls.mono (HNT.out _) ?_; rintro e _ ⟨rfl, rfl⟩; clear HNT))
    all_goals go_returns
    all_goals refine ⟨ret_int ?_, XN.out⟩
    all_goals (have hv := HV.out; have hE1 := HE1.out; have hE2 := HE2.out; clear HV HE1 HE2 XN BN)
    all_goals (simp_all <;> (first | omega | (split <;> omega)))
  · have h1n : 1 ≤ kk := by omega
    go_enter Tryd.func44, Tryd.ntmps44
    go_wp2_with (first | (go_at_call 96; refine Calls.mono (HNA.out _) ?_; rintro e _ ⟨rfl, rfl⟩; clear HNA) | (go_at_call 96; refine Calls.mono (HNT.out _) ?_; rintro e _ ⟨rfl, rfl⟩; clear HNT))
    all_goals go_returns
    all_goals refine ⟨ret_int ?_, XN.out⟩
    all_goals (have hv := HV.out; have hE1 := HE1.out; have hE2 := HE2.out; clear HV HE1 HE2 XN BN)
    all_goals (simp_all <;> (first | omega | (split <;> omega)))
  · subst hk
    go_enter Tryd.func44, Tryd.ntmps44
    go_wp2_with (first | (go_at_call 96; refine Calls.mono (HNA.out _) ?_; rintro e _ ⟨rfl, rfl⟩; clear HNA) | (go_at_call 96; refine Calls.mono (HNT.out _) ?_; rintro e _ ⟨rfl, rfl⟩; clear HNT))
    all_goals go_returns
    all_goals refine ⟨ret_int ?_, XN.out⟩
    all_goals (have hv := HV.out; have hE1 := HE1.out; have hE2 := HE2.out; clear HV HE1 HE2 XN BN)
    all_goals (simp_all <;> (first | omega | (split <;> omega)))
  · subst hk
    go_enter Tryd.func44, Tryd.ntmps44
    go_wp2_with (first | (go_at_call 96; refine Calls.mono (HNA.out _) ?_; rintro e _ ⟨rfl, rfl⟩; clear HNA) | (go_at_call 96; refine Calls.mono (HNT.out _) ?_; rintro e _ ⟨rfl, rfl⟩; clear HNT))
    all_goals go_returns
    all_goals refine ⟨ret_int ?_, XN.out⟩
    all_goals (have hv := HV.out; have hE1 := HE1.out; have hE2 := HE2.out; clear HV HE1 HE2 XN BN)
    all_goals (simp_all <;> (first | omega | (split <;> omega)))
  · subst hk
    go_enter Tryd.func44, Tryd.ntmps44
    go_wp2_with (first | (go_at_call 96; refine Calls.mono (HNA.out _) ?_; rintro e _ ⟨rfl, rfl⟩; clear HNA) | (go_at_call 96; refine Calls.mono (HNT.out _) ?_; rintro e _ ⟨rfl, rfl⟩; clear HNT))
    all_goals go_returns
    all_goals refine ⟨ret_int ?_, XN.out⟩
    all_goals (have hv := HV.out; have hE1 := HE1.out; have hE2 := HE2.out; clear HV HE1 HE2 XN BN)
    all_goals (simp_all <;> (first | omega | (split <;> omega)))
  · subst hk
    go_enter Tryd.func44, Tryd.ntmps44
    go_wp2_with (first | (go_at_call 96; refine Calls.mono (HNA.out _) ?_; rintro e _ ⟨rfl, rfl⟩; clear HNA) | (go_at_call 96; refine Calls.mono (HNT.out _) ?_; rintro e _ ⟨rfl, rfl⟩; clear HNT))
    all_goals go_returns
    all_goals refine ⟨ret_int ?_, XN.out⟩
    all_goals (have hv := HV.out; have hE1 := HE1.out; have hE2 := HE2.out; clear HV HE1 HE2 XN BN)
    all_goals (simp_all <;> (first | omega | (split <;> omega)))
  · subst hk
    go_enter Tryd.func44, Tryd.ntmps44
    go_wp2_with (first | (go_at_call 96; refine Calls.mono (HNA.out _) ?_; rintro e _ ⟨rfl, rfl⟩; clear HNA) | (go_at_call 96; refine Calls.mono (HNT.out _) ?_; rintro e _ ⟨rfl, rfl⟩; clear HNT))
    all_goals go_returns
    all_goals refine ⟨ret_int ?_, XN.out⟩
    all_goals (have hv := HV.out; have hE1 := HE1.out; have hE2 := HE2.out; clear HV HE1 HE2 XN BN)
    all_goals (simp_all <;> (first | omega | (split <;> omega)))
end Go.Proofs.YtolhifnlahllnaaDoor
