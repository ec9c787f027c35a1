/- The law MarksBack: walk, one theorem a way (printed by gen_mback.py). -/
import Derived.Test.YtikdmnedbfpkeaaDoorRkw
import Derived.Test.YtikdmnedbfpkeaaDoorRkm
import Derived.Test.YtikdmnedbfpkeaaDoorBpk
namespace Go.Proofs.YtikdmnedbfpkeaaDoor
open Go.RowKit Hy
set_option maxHeartbeats 3200000 in
theorem marksBack_11 (l : List Bool) (s : ByteArray) (many : Int) (A : Option Addr) (n ca : Nat) (w : World) (hn : l.length = n) (ra : Rd w A (bls l)) (hnl : n ≤ 1048576) (hT : TabOk w) (h64 : n ≤ 64) (hc : Bits.chk s.data.toList many 1 = 0) :
    Calls Tryd.prog 6 #[.slice A n ca, .string s, .int .i64 many] w fun e w' => e = .returned (.bool true) ∧ Ext w w' := by
  have lo : (Mrk.ones l).length = n := (Mrk.ones_len l).trans hn
  have F1 := hid (bytes_any l A n ca w hn ra (by omega))
  have F2 := hid (fun wx (hx : Ext w wx) => rankBegun_any wx (hT.keep hx))
  have F4 := hid (fun wx => of_all s many wx)
  have h2 : ∀ x ∈ Mrk.ones l, x < 2 ^ 1 := fun x hx => by obtain ⟨b, _, rfl⟩ := List.mem_map.1 (show x ∈ l.map _ from hx); cases b <;> decide
  have V1 : Bits.pk (Mrk.ones l) (1 : Nat) = (Bits.packed (Mrk.ones l) 1, 0) := Bits.pk_of (by decide) (by omega) h2
  have V2 := Bits.chk_packed (l := Mrk.ones l) (w := 1) (by decide) (by omega) h2
  have V3 := Bits.up_packed (l := Mrk.ones l) (w := 1) (by decide) (by omega) h2
  rw [lo] at V2 V3
  have F3 := hid (fun wx => of_all ⟨(Bits.packed (Mrk.ones l) 1).toArray⟩ (n : Int) wx)
  have V4 : (Bits.pk (Mrk.ones l) 1) = (Bits.packed (Mrk.ones l) 1, 0) := V1
  rw [V4] at F1
  simp only [show (1 : Int) = ((1 : Nat) : Int) from rfl, V2, V3, Mrk.marks_ones] at F3
  have F5 := hid (fun wx C c (h : Rd wx C (bls l)) (h' : Rd wx A (bls l)) => (by have h := sameMarks_any l l C A n n c ca wx hn hn h h' (by omega); rwa [show decide (l = l) = true by simp] at h : Calls Tryd.prog 18 #[.slice C n c, .slice A n ca] wx fun e w' => e = .returned (.bool true) ∧ Ext wx w'))
  unfold Mrk.Out at F3
  simp only [hn] at F3
  have R1 := hid (fun wx (hx : Ext w wx) => ra.keep hx)
  have i1 : (n : Int) ≤ 64 := by omega
  generalize Bits.packed (Mrk.ones l) 1 = T at *
  clear V1 V2 V3 V4 h2
  have hu := Bits.up_ok _ _ _ hc
  obtain ⟨c1, c2, c3, c4, c5, c6⟩ := Bits.chk_ok hc
  obtain ⟨m, rfl⟩ := Int.eq_ofNat_of_zero_le c3
  have ht : (1 : Int).toNat = 1 := rfl
  rw [Int.toNat_natCast, ht] at hu c5 c6
  have U1 := Bits.unp_len s.data.toList m 1
  have U2 := Bits.unp_lt s.data.toList m 1
  have U3 : Bits.pk (Bits.unp s.data.toList m 1) (1 : Nat) = (Bits.packed (Bits.unp s.data.toList m 1) 1, 0) := Bits.pk_of (by decide) (by omega) U2
  rw [Bits.packed_unp s.data.toList m 1 c5 c6] at U3
  have U4 := Mrk.ones_marks (Bits.unp s.data.toList m 1) (fun x hx => by have := U2 x hx; omega)
  have U5 := (Mrk.marks_len (Bits.unp s.data.toList m 1)).trans U1
  rw [hc, hu] at F4
  generalize Bits.unp s.data.toList m 1 = L at *
  have F6 := hid (fun wx C c (h : Rd wx C (bls (Mrk.marks L))) => bytes_any (Mrk.marks L) C m c wx U5 h (by omega))
  rw [U4, show (1 : Int) = ((1 : Nat) : Int) from rfl, U3] at F6
  simp only [str_self] at F6
  unfold Mrk.Out at F4
  simp only [U5] at F4
  clear hu c1 c2 c3 c4 c5 c6 ht U1 U2 U3 U4 U5 hc
  clear hn ra hnl hT lo h64
  go_enter Tryd.func6, Tryd.ntmps6
  go_wp2_with fail
  refine Calls.mono (F1.out) ?_
  rintro e w1 ⟨rfl, hx⟩
  have Xp := hid hx
  clear hx 
  go_wp2_with fail
  refine Calls.mono (F2.out _ Xp.out) ?_
  rintro e w2 ⟨rfl, hx⟩
  replace Xp := hid (Xp.out.then hx)
  clear hx 
  go_wp2_with fail
  refine Calls.mono (F3.out _) ?_
  rintro e w3 ⟨C3, c3, rfl, h1, hx⟩
  replace Xp := hid (Xp.out.then hx)
  have Q3 := hid h1
  clear hx h1
  go_wp2_with fail
  refine Calls.mono (F5.out _ _ _ Q3.out (R1.out _ Xp.out)) ?_
  rintro e w4 ⟨rfl, hx⟩
  replace Xp := hid (Xp.out.then hx)
  replace Q3 := hid (Q3.out.keep hx)
  clear hx 
  go_wp2_with fail
  refine Calls.mono (F4.out _) ?_
  rintro e w5 ⟨C4, c4, rfl, h1, hx⟩
  replace Xp := hid (Xp.out.then hx)
  replace Q3 := hid (Q3.out.keep hx)
  have Q4 := hid h1
  clear hx h1
  go_wp2_with fail
  refine Calls.mono (F6.out _ _ _ Q4.out) ?_
  rintro e w6 ⟨rfl, hx⟩
  replace Xp := hid (Xp.out.then hx)
  replace Q3 := hid (Q3.out.keep hx)
  replace Q4 := hid (Q4.out.keep hx)
  clear hx 
  go_wp2
  go_returns
  exact ⟨rfl, Xp.out⟩
set_option maxHeartbeats 3200000 in
theorem marksBack_10 (l : List Bool) (s : ByteArray) (many : Int) (A : Option Addr) (n ca : Nat) (w : World) (hn : l.length = n) (ra : Rd w A (bls l)) (hnl : n ≤ 1048576) (hT : TabOk w) (h64 : n ≤ 64) (hc : Bits.chk s.data.toList many 1 ≠ 0) :
    Calls Tryd.prog 6 #[.slice A n ca, .string s, .int .i64 many] w fun e w' => e = .returned (.bool true) ∧ Ext w w' := by
  have lo : (Mrk.ones l).length = n := (Mrk.ones_len l).trans hn
  have F1 := hid (bytes_any l A n ca w hn ra (by omega))
  have F2 := hid (fun wx (hx : Ext w wx) => rankBegun_any wx (hT.keep hx))
  have F4 := hid (fun wx => of_all s many wx)
  have h2 : ∀ x ∈ Mrk.ones l, x < 2 ^ 1 := fun x hx => by obtain ⟨b, _, rfl⟩ := List.mem_map.1 (show x ∈ l.map _ from hx); cases b <;> decide
  have V1 : Bits.pk (Mrk.ones l) (1 : Nat) = (Bits.packed (Mrk.ones l) 1, 0) := Bits.pk_of (by decide) (by omega) h2
  have V2 := Bits.chk_packed (l := Mrk.ones l) (w := 1) (by decide) (by omega) h2
  have V3 := Bits.up_packed (l := Mrk.ones l) (w := 1) (by decide) (by omega) h2
  rw [lo] at V2 V3
  have F3 := hid (fun wx => of_all ⟨(Bits.packed (Mrk.ones l) 1).toArray⟩ (n : Int) wx)
  have V4 : (Bits.pk (Mrk.ones l) 1) = (Bits.packed (Mrk.ones l) 1, 0) := V1
  rw [V4] at F1
  simp only [show (1 : Int) = ((1 : Nat) : Int) from rfl, V2, V3, Mrk.marks_ones] at F3
  have F5 := hid (fun wx C c (h : Rd wx C (bls l)) (h' : Rd wx A (bls l)) => (by have h := sameMarks_any l l C A n n c ca wx hn hn h h' (by omega); rwa [show decide (l = l) = true by simp] at h : Calls Tryd.prog 18 #[.slice C n c, .slice A n ca] wx fun e w' => e = .returned (.bool true) ∧ Ext wx w'))
  unfold Mrk.Out at F3
  simp only [hn] at F3
  have R1 := hid (fun wx (hx : Ext w wx) => ra.keep hx)
  have i1 : (n : Int) ≤ 64 := by omega
  generalize Bits.packed (Mrk.ones l) 1 = T at *
  clear V1 V2 V3 V4 h2
  have hu := Bits.up_bad _ _ _ hc
  rw [hu] at F4
  generalize Bits.chk s.data.toList many 1 = er at *
  have U1 : ((er : Int) != 0) = true := by rw [bne_iff_ne]; omega
  have U2 : ((er : Int) == 0) = false := by rw [beq_eq_false_iff_ne]; omega
  unfold Mrk.Out at F4
  simp only [Mrk.marks_len, List.length_nil] at F4
  clear hu hc
  clear hn ra hnl hT lo h64
  go_enter Tryd.func6, Tryd.ntmps6
  go_wp2_with fail
  refine Calls.mono (F1.out) ?_
  rintro e w1 ⟨rfl, hx⟩
  have Xp := hid hx
  clear hx 
  go_wp2_with fail
  refine Calls.mono (F2.out _ Xp.out) ?_
  rintro e w2 ⟨rfl, hx⟩
  replace Xp := hid (Xp.out.then hx)
  clear hx 
  go_wp2_with fail
  refine Calls.mono (F3.out _) ?_
  rintro e w3 ⟨C3, c3, rfl, h1, hx⟩
  replace Xp := hid (Xp.out.then hx)
  have Q3 := hid h1
  clear hx h1
  go_wp2_with fail
  refine Calls.mono (F5.out _ _ _ Q3.out (R1.out _ Xp.out)) ?_
  rintro e w4 ⟨rfl, hx⟩
  replace Xp := hid (Xp.out.then hx)
  replace Q3 := hid (Q3.out.keep hx)
  clear hx 
  go_wp2_with fail
  refine Calls.mono (F4.out _) ?_
  rintro e w5 ⟨C4, c4, rfl, h1, hx⟩
  replace Xp := hid (Xp.out.then hx)
  replace Q3 := hid (Q3.out.keep hx)
  have Q4 := hid h1
  clear hx h1
  go_wp2
  go_returns
  exact ⟨rfl, Xp.out⟩
set_option maxHeartbeats 3200000 in
theorem marksBack_01 (l : List Bool) (s : ByteArray) (many : Int) (A : Option Addr) (n ca : Nat) (w : World) (hn : l.length = n) (ra : Rd w A (bls l)) (hnl : n ≤ 1048576) (hT : TabOk w) (h64 : 64 < n) (hc : Bits.chk s.data.toList many 1 = 0) :
    Calls Tryd.prog 6 #[.slice A n ca, .string s, .int .i64 many] w fun e w' => e = .returned (.bool true) ∧ Ext w w' := by
  have lo : (Mrk.ones l).length = n := (Mrk.ones_len l).trans hn
  have F1 := hid (bytes_any l A n ca w hn ra (by omega))
  have F2 := hid (fun wx (hx : Ext w wx) => rankBegun_any wx (hT.keep hx))
  have F4 := hid (fun wx => of_all s many wx)
  have V1 : (Bits.pk (Mrk.ones l) 1).2 ≠ 0 := fun h => by
    have h3 := (Bits.pk_ok h (fun x hx => Mrk.ones_lt l x hx)).2.2.1
    omega
  obtain ⟨T, hT2⟩ : ∃ T, T = Bits.pk (Mrk.ones l) 1 := ⟨_, rfl⟩
  rw [← hT2] at F1 V1
  obtain ⟨T, e1⟩ := T
  have V2 : (((e1 : Nat) : Int) == 0) = false := by rw [beq_eq_false_iff_ne]; have : e1 ≠ 0 := V1; omega
  have V3 : (((e1 : Nat) : Int) != 0) = true := by rw [bne_iff_ne]; have : e1 ≠ 0 := V1; omega
  have i1 : ¬ (n : Int) ≤ 64 := by omega
  clear V1 hT2
  have hu := Bits.up_ok _ _ _ hc
  obtain ⟨c1, c2, c3, c4, c5, c6⟩ := Bits.chk_ok hc
  obtain ⟨m, rfl⟩ := Int.eq_ofNat_of_zero_le c3
  have ht : (1 : Int).toNat = 1 := rfl
  rw [Int.toNat_natCast, ht] at hu c5 c6
  have U1 := Bits.unp_len s.data.toList m 1
  have U2 := Bits.unp_lt s.data.toList m 1
  have U3 : Bits.pk (Bits.unp s.data.toList m 1) (1 : Nat) = (Bits.packed (Bits.unp s.data.toList m 1) 1, 0) := Bits.pk_of (by decide) (by omega) U2
  rw [Bits.packed_unp s.data.toList m 1 c5 c6] at U3
  have U4 := Mrk.ones_marks (Bits.unp s.data.toList m 1) (fun x hx => by have := U2 x hx; omega)
  have U5 := (Mrk.marks_len (Bits.unp s.data.toList m 1)).trans U1
  rw [hc, hu] at F4
  generalize Bits.unp s.data.toList m 1 = L at *
  have F6 := hid (fun wx C c (h : Rd wx C (bls (Mrk.marks L))) => bytes_any (Mrk.marks L) C m c wx U5 h (by omega))
  rw [U4, show (1 : Int) = ((1 : Nat) : Int) from rfl, U3] at F6
  simp only [str_self] at F6
  unfold Mrk.Out at F4
  simp only [U5] at F4
  clear hu c1 c2 c3 c4 c5 c6 ht U1 U2 U3 U4 U5 hc
  clear hn ra hnl hT lo h64
  go_enter Tryd.func6, Tryd.ntmps6
  go_wp2_with fail
  refine Calls.mono (F1.out) ?_
  rintro e w1 ⟨rfl, hx⟩
  have Xp := hid hx
  clear hx 
  go_wp2_with fail
  refine Calls.mono (F2.out _ Xp.out) ?_
  rintro e w2 ⟨rfl, hx⟩
  replace Xp := hid (Xp.out.then hx)
  clear hx 
  go_wp2_with fail
  refine Calls.mono (F4.out _) ?_
  rintro e w3 ⟨C4, c4, rfl, h1, hx⟩
  replace Xp := hid (Xp.out.then hx)
  have Q4 := hid h1
  clear hx h1
  go_wp2_with fail
  refine Calls.mono (F6.out _ _ _ Q4.out) ?_
  rintro e w4 ⟨rfl, hx⟩
  replace Xp := hid (Xp.out.then hx)
  replace Q4 := hid (Q4.out.keep hx)
  clear hx 
  go_wp2
  go_returns
  exact ⟨rfl, Xp.out⟩
set_option maxHeartbeats 3200000 in
theorem marksBack_00 (l : List Bool) (s : ByteArray) (many : Int) (A : Option Addr) (n ca : Nat) (w : World) (hn : l.length = n) (ra : Rd w A (bls l)) (hnl : n ≤ 1048576) (hT : TabOk w) (h64 : 64 < n) (hc : Bits.chk s.data.toList many 1 ≠ 0) :
    Calls Tryd.prog 6 #[.slice A n ca, .string s, .int .i64 many] w fun e w' => e = .returned (.bool true) ∧ Ext w w' := by
  have lo : (Mrk.ones l).length = n := (Mrk.ones_len l).trans hn
  have F1 := hid (bytes_any l A n ca w hn ra (by omega))
  have F2 := hid (fun wx (hx : Ext w wx) => rankBegun_any wx (hT.keep hx))
  have F4 := hid (fun wx => of_all s many wx)
  have V1 : (Bits.pk (Mrk.ones l) 1).2 ≠ 0 := fun h => by
    have h3 := (Bits.pk_ok h (fun x hx => Mrk.ones_lt l x hx)).2.2.1
    omega
  obtain ⟨T, hT2⟩ : ∃ T, T = Bits.pk (Mrk.ones l) 1 := ⟨_, rfl⟩
  rw [← hT2] at F1 V1
  obtain ⟨T, e1⟩ := T
  have V2 : (((e1 : Nat) : Int) == 0) = false := by rw [beq_eq_false_iff_ne]; have : e1 ≠ 0 := V1; omega
  have V3 : (((e1 : Nat) : Int) != 0) = true := by rw [bne_iff_ne]; have : e1 ≠ 0 := V1; omega
  have i1 : ¬ (n : Int) ≤ 64 := by omega
  clear V1 hT2
  have hu := Bits.up_bad _ _ _ hc
  rw [hu] at F4
  generalize Bits.chk s.data.toList many 1 = er at *
  have U1 : ((er : Int) != 0) = true := by rw [bne_iff_ne]; omega
  have U2 : ((er : Int) == 0) = false := by rw [beq_eq_false_iff_ne]; omega
  unfold Mrk.Out at F4
  simp only [Mrk.marks_len, List.length_nil] at F4
  clear hu hc
  clear hn ra hnl hT lo h64
  go_enter Tryd.func6, Tryd.ntmps6
  go_wp2_with fail
  refine Calls.mono (F1.out) ?_
  rintro e w1 ⟨rfl, hx⟩
  have Xp := hid hx
  clear hx 
  go_wp2_with fail
  refine Calls.mono (F2.out _ Xp.out) ?_
  rintro e w2 ⟨rfl, hx⟩
  replace Xp := hid (Xp.out.then hx)
  clear hx 
  go_wp2_with fail
  refine Calls.mono (F4.out _) ?_
  rintro e w3 ⟨C4, c4, rfl, h1, hx⟩
  replace Xp := hid (Xp.out.then hx)
  have Q4 := hid h1
  clear hx h1
  go_wp2
  go_returns
  exact ⟨rfl, Xp.out⟩
theorem marksBack_any (l : List Bool) (s : ByteArray) (many : Int) (A : Option Addr) (n ca : Nat) (w : World) (hn : l.length = n) (ra : Rd w A (bls l)) (hnl : n ≤ 1048576) (hT : TabOk w) :
    Calls Tryd.prog 6 #[.slice A n ca, .string s, .int .i64 many] w fun e w' => e = .returned (.bool true) ∧ Ext w w' := by
  by_cases h64 : n ≤ 64
  · by_cases hc : Bits.chk s.data.toList many 1 = 0
    · exact marksBack_11 l s many A n ca w hn ra hnl hT h64 hc
    · exact marksBack_10 l s many A n ca w hn ra hnl hT h64 hc
  · by_cases hc : Bits.chk s.data.toList many 1 = 0
    · exact marksBack_01 l s many A n ca w hn ra hnl hT (by omega) hc
    · exact marksBack_00 l s many A n ca w hn ra hnl hT (by omega) hc
end Go.Proofs.YtikdmnedbfpkeaaDoor
