/- BloomNever: walk. -/
import Derived.Test.YtiamfjfbmgijhaaBuw
import Derived.Test.YtiamfjfbmgijhaaQta
namespace Hy
open Go Go.RowKit
theorem blk_grown {w w' : World} {g : Nat} {t : TypeId} {cs : Array Value} {row : Option Nat} (h : Blk w g t cs) (hg : w.grownBy w' row) (hne : row ≠ some g) : Blk w' g t cs := (hg.block g h.lt (Ne.symm hne)).trans h
theorem blk_rd {w : World} {g : Nat} {t : TypeId} {cs : Array Value} (h : Blk w g t cs) : Rd w (some ⟨g, 0, none⟩) cs.toList := fun _ => by
  refine ⟨g, 0, rfl, h.lt, fun j u hu => ?_⟩
  rw [Nat.zero_add, h.cell j, ← Array.getElem?_toList]; exact hu
theorem rd_at {w : World} {A : Option Addr} {l : List C} (h : Rd w A (l.flatMap C.cells)) (i : Nat) (hi : i < l.length) :
    ∃ b o, A = some ⟨b, o, none⟩ ∧ b < w.heap.size ∧ w.cell? ⟨b, o + i * 3, none⟩ = some (.int .i64 l[i].k) ∧ w.cell? ⟨b, o + i * 3 + 1, none⟩ = some (.int .u64 l[i].n) ∧ w.cell? ⟨b, o + i * 3 + 2, none⟩ = some (.string l[i].s) := by
  obtain ⟨b, o, e, hb, hc⟩ := Rd.cell3 (f := C.cells) (fun _ => rfl) h hi
  exact ⟨b, o, e, hb, hc 0 _ (by omega) rfl, hc 1 _ (by omega) rfl, hc 2 _ (by omega) rfl⟩
theorem of_take (f : Bloom.F) (l : List C) (i : Nat) (h : i < l.length) : Bloom.of f (l.take (i + 1)) = Bloom.add (Bloom.of f (l.take i)) l[i] := by
  unfold Bloom.of; rw [List.take_succ_eq_append_getElem h, List.foldl_append]; rfl
theorem okL_take {l : List C} (h : C.okL l) (i : Nat) : C.okL (l.take i) := fun c hc => h c (List.mem_of_mem_take hc)
end Hy
namespace Go.Proofs.Ytiamfjfbmgijhaa
open Go.RowKit Hy
set_option maxHeartbeats 3000000 in
set_option maxRecDepth 100000 in
theorem bnever_core (f : Bloom.F) (a b : List C) (A B : Option Addr) (la lb ca cb : Nat) (k : Int) (n : Nat) (s : ByteArray) (w : World) (hf : f.ok)
    (ha : a.length = la) (hb : b.length = lb) (hra : Rd w A (a.flatMap C.cells)) (hrb : Rd w B (b.flatMap C.cells)) (hla : la ≤ 1048576) (hlb : lb ≤ 1048576) (oka : C.okL a) (okb : C.okL b) (hnn : n < 18446744073709551616) (hss : s.size ≤ 140737488351232) :
    Calls Try.prog 3 #[.agg #[.int .u64 (f 0 : Nat), .int .u64 (f 1 : Nat), .int .u64 (f 2 : Nat), .int .u64 (f 3 : Nat)], .slice A la ca, .slice B lb cb, .agg #[.int .i64 k, .int .u64 (n : Nat), .string s]] w fun e w' => e = .returned (.bool true) ∧ Ext w w' := by
  have X := hid (((ext_refl w).new (.cells #[.int .u64 (f 0 : Nat), .int .u64 (f 1 : Nat), .int .u64 (f 2 : Nat), .int .u64 (f 3 : Nat)] 23)).new (.cells #[.int .i64 k, .int .u64 (n : Nat), .string s] 26))
  have BF := hid ((Blk.new w 23 #[.int .u64 (f 0 : Nat), .int .u64 (f 1 : Nat), .int .u64 (f 2 : Nat), .int .u64 (f 3 : Nat)]).alloc (.cells #[.int .i64 k, .int .u64 (n : Nat), .string s] 26))
  have BC := hid (Blk.newAt (w := w.alloc (.cells #[.int .u64 (f 0 : Nat), .int .u64 (f 1 : Nat), .int .u64 (f 2 : Nat), .int .u64 (f 3 : Nat)] 23)) (g := w.heap.size + 1) (t := 26) (cs := #[.int .i64 k, .int .u64 (n : Nat), .string s]) (by simp))
  have RA := hid hra; have RB := hid hrb; have HLA := hid hla; have HLB := hid hlb; have HAL := hid ha; have HBL := hid hb; have OKA := hid oka; have OKB := hid okb; have HNN := hid hnn; have HSS := hid hss; have HF := hid hf
  have hlaI : (la : Int) ≤ 1048576 := by omega
  have hlbI : (lb : Int) ≤ 1048576 := by omega
  clear hra hrb hla hlb ha hb oka okb hnn hss hf
  go_enter Try.func3, Try.ntmps3
  go_wp2
  go_loopw [9] (fun c wr => ∃ i : Nat, i ≤ la ∧ c = .int .i64 i ∧ Blk wr w.heap.size 23 #[.int .u64 ((Bloom.of f (a.take i)) 0 : Nat), .int .u64 ((Bloom.of f (a.take i)) 1 : Nat), .int .u64 ((Bloom.of f (a.take i)) 2 : Nat), .int .u64 ((Bloom.of f (a.take i)) 3 : Nat)] ∧ Blk wr (w.heap.size + 1) 26 #[.int .i64 k, .int .u64 (n : Nat), .string s] ∧ Ext w wr) (fun c _ => la - (intOf c).toNat)
  case atStart => exact ⟨0, Nat.zero_le _, rfl, BF.out, BC.out, X.out⟩
  case round =>
    obtain ⟨i, hi, rfl, hBF, hBC, hX⟩ := hrel
    by_cases hlt : i < la
    · have hia : i < a.length := by rw [HAL.out]; exact hlt
      obtain ⟨b1, o1, e1, l1, c0, c1, c2⟩ := rd_at RA.out i hia
      subst e1
      have HT := hid (of_take f a i hia)
      have hok := OKA.out a[i] (List.getElem_mem hia)
      have HFI := hid (Bloom.of_ok HF.out (a.take i))
      obtain ⟨ci, hci⟩ : ∃ ci, ci = a[i] := ⟨_, rfl⟩
      rw [← hci] at HT hok c0 c1 c2
      obtain ⟨fi, hfi⟩ : ∃ fi, fi = Bloom.of f (a.take i) := ⟨_, rfl⟩
      rw [← hfi] at HT HFI hBF
      obtain ⟨kk, nn, ss⟩ := ci
      have GA : Gives Try.prog 11 #[.agg #[.int .u64 (fi 0 : Nat), .int .u64 (fi 1 : Nat), .int .u64 (fi 2 : Nat), .int .u64 (fi 3 : Nat)], .agg #[.int .i64 kk, .int .u64 (nn : Nat), .string ss]] (.agg #[.int .u64 ((Bloom.add fi ⟨kk, nn, ss⟩) 0 : Nat), .int .u64 ((Bloom.add fi ⟨kk, nn, ss⟩) 1 : Nat), .int .u64 ((Bloom.add fi ⟨kk, nn, ss⟩) 2 : Nat), .int .u64 ((Bloom.add fi ⟨kk, nn, ss⟩) 3 : Nat)]) := fun w => add_f_any fi kk nn ss w HFI.out hok.1 hok.2
      have d0 := ext_cell hX c0
      have d1 := ext_cell hX c1
      have d2 := ext_cell hX c2
      obtain ⟨p0, p1, p2, p3⟩ : wr.cell? ⟨w.heap.size, 0, none⟩ = some (.int .u64 (fi 0 : Nat)) ∧ wr.cell? ⟨w.heap.size, 1, none⟩ = some (.int .u64 (fi 1 : Nat)) ∧ wr.cell? ⟨w.heap.size, 2, none⟩ = some (.int .u64 (fi 2 : Nat)) ∧ wr.cell? ⟨w.heap.size, 3, none⟩ = some (.int .u64 (fi 3 : Nat)) := ⟨hBF.cell 0, hBF.cell 1, hBF.cell 2, hBF.cell 3⟩
      have p0r := cell_regrown p0
      have p1r := cell_regrown p1
      have p2r := cell_regrown p2
      have p3r := cell_regrown p3
      have d0r := cell_regrown d0
      have d1r := cell_regrown d1
      have d2r := cell_regrown d2
      have HBF := hid hBF
      have HBC := hid hBC
      have HX := hid hX
      clear c0 c1 c2 hok hci hfi hBF hBC hX l1 hia
      go_wp2_with fail
      refine wp_region_quiet_tail 6 (by kernel_rfl) (by kernel_rfl) ?_
      simp only [List.take_succ_cons, List.take_zero, List.drop_succ_cons, List.drop_zero]
      repeat (go_big_quiet_step ((go_at_call 11; with_reducible exact GA.quiet _ _ _)))
      refine wpQuiet_nil ?_
      intro w8 hw8
      have X8 : Ext wr w8 := by obtain ⟨p, rfl⟩ := hw8; exact ext_regrown _ p
      replace HX := hid (HX.out.then X8)
      replace HBF := hid (HBF.out.keep X8)
      replace HBC := hid (HBC.out.keep X8)
      clear hw8 X8 p0 p0r p1 p1r p2 p2r p3 p3r d0 d0r d1 d1r d2 d2r
      refine wpList_store_blk rfl 23 (.tmp 4) (.tmp 22) rfl w.heap.size #[.int .u64 ((Bloom.add fi ⟨kk, nn, ss⟩) 0 : Nat), .int .u64 ((Bloom.add fi ⟨kk, nn, ss⟩) 1 : Nat), .int .u64 ((Bloom.add fi ⟨kk, nn, ss⟩) 2 : Nat), .int .u64 ((Bloom.add fi ⟨kk, nn, ss⟩) 3 : Nat)] rfl rfl 23 _ HBF.out (by kernel_rfl) rfl (by simp [Value.oneCell']) w.heap.size (Nat.le_refl _) ?_
      intro w9 hB9 hF9 hL9
      have HBF9 := hid hB9
      have HBC9 := hid (hF9 _ _ _ (by omega) HBC.out)
      have HX9 : Hid (Ext w w9) := hid (Below.trans HX.out hL9)
      clear hB9 hF9 hL9
      refine wpList_nil ?_
      simp only [Act.put]
      go_wp2
      go_roundw
      case rel => exact ⟨i + 1, by omega, by go_num, by rw [HT.out]; exact HBF9.out, HBC9.out, HX9.out⟩
      case measure => simp [intOf]; omega

    · obtain rfl : i = la := by omega
      have e : a.take i = a := List.take_of_length_le (by rw [HAL.out]; exact Nat.le_refl _)
      rw [e] at hBF
      have HF1 := hid (Bloom.of_ok HF.out a)
      obtain ⟨f1, hf1⟩ : ∃ f1, f1 = Bloom.of f a := ⟨_, rfl⟩
      rw [← hf1] at hBF HF1
      have HF1E := hid hf1
      clear hf1
      have BF := hid hBF; have BC := hid hBC; have X := hid hX
      have HF2 := hid (Bloom.add_ok HF1.out ⟨k, n, s⟩)
      have GA : Gives Try.prog 11 #[.agg #[.int .u64 (f1 0 : Nat), .int .u64 (f1 1 : Nat), .int .u64 (f1 2 : Nat), .int .u64 (f1 3 : Nat)], .agg #[.int .i64 k, .int .u64 (n : Nat), .string s]] (.agg #[.int .u64 ((Bloom.add f1 ⟨k, n, s⟩) 0 : Nat), .int .u64 ((Bloom.add f1 ⟨k, n, s⟩) 1 : Nat), .int .u64 ((Bloom.add f1 ⟨k, n, s⟩) 2 : Nat), .int .u64 ((Bloom.add f1 ⟨k, n, s⟩) 3 : Nat)]) := fun w => add_f_any f1 k n s w HF1.out HNN.out HSS.out
      obtain ⟨p0, p1, p2, p3⟩ : wr.cell? ⟨w.heap.size, 0, none⟩ = some (.int .u64 (f1 0 : Nat)) ∧ wr.cell? ⟨w.heap.size, 1, none⟩ = some (.int .u64 (f1 1 : Nat)) ∧ wr.cell? ⟨w.heap.size, 2, none⟩ = some (.int .u64 (f1 2 : Nat)) ∧ wr.cell? ⟨w.heap.size, 3, none⟩ = some (.int .u64 (f1 3 : Nat)) := ⟨hBF.cell 0, hBF.cell 1, hBF.cell 2, hBF.cell 3⟩
      obtain ⟨q0, q1, q2⟩ : wr.cell? ⟨w.heap.size + 1, 0, none⟩ = some (.int .i64 k) ∧ wr.cell? ⟨w.heap.size + 1, 1, none⟩ = some (.int .u64 (n : Nat)) ∧ wr.cell? ⟨w.heap.size + 1, 2, none⟩ = some (.string s) := ⟨hBC.cell 0, hBC.cell 1, hBC.cell 2⟩
      clear hBF hBC hX e
      go_wp2_with fail
      refine Calls.mono (GA _) ?_
      rintro e w4 ⟨rfl, hx⟩
      replace X := hid (X.out.then hx)
      replace BF := hid (BF.out.keep hx)
      replace BC := hid (BC.out.keep hx)
      clear hx p0 p1 p2 p3 q0 q1 q2
      obtain ⟨f2, hf2⟩ : ∃ f2, f2 = Bloom.add f1 ⟨k, n, s⟩ := ⟨_, rfl⟩
      rw [← hf2] at HF2 ⊢
      have HF2E := hid hf2
      clear hf2
      obtain ⟨z0, hz0⟩ : ∃ z, z = f2 0 := ⟨_, rfl⟩
      obtain ⟨z1, hz1⟩ : ∃ z, z = f2 1 := ⟨_, rfl⟩
      obtain ⟨z2, hz2⟩ : ∃ z, z = f2 2 := ⟨_, rfl⟩
      obtain ⟨z3, hz3⟩ : ∃ z, z = f2 3 := ⟨_, rfl⟩
      rw [← hz0, ← hz1, ← hz2, ← hz3]
      have HZ0 := hid hz0
      have HZ1 := hid hz1
      have HZ2 := hid hz2
      have HZ3 := hid hz3
      clear hz0 hz1 hz2 hz3
      go_wp2_with (with_reducible (show wpList _ _ _ (⟨none, .store 23 (.tmp 4) (.tmp 25), _, _, _, _⟩ :: _) _ _); go_loud (refine wpList_store_blk rfl 23 (.tmp 4) (.tmp 25) rfl w.heap.size #[.int .u64 (z0 : Nat), .int .u64 (z1 : Nat), .int .u64 (z2 : Nat), .int .u64 (z3 : Nat)] rfl rfl 23 _ BF.out (by kernel_rfl) rfl (by simp [Value.oneCell']) w.heap.size (Nat.le_refl _) ?_; intro w5 hB5 hF5 hL5; have BF5 := hid hB5; have BC5 := hid (hF5 _ _ _ (by omega) BC.out); have X5 : Hid (Ext w w5) := hid (Below.trans X.out hL5); clear hB5 hF5 hL5))
      obtain rfl := HZ0.out
      obtain rfl := HZ1.out
      obtain rfl := HZ2.out
      obtain rfl := HZ3.out
      clear BF BC X HZ0 HZ1 HZ2 HZ3
      have BF := BF5
      have BC := BC5
      have X := X5
      clear BF5 BC5 X5

      go_loopw [10] (fun c wr => ∃ j : Nat, j ≤ lb ∧ c = .int .i64 j ∧ Blk wr w.heap.size 23 #[.int .u64 ((Bloom.of f2 (b.take j)) 0 : Nat), .int .u64 ((Bloom.of f2 (b.take j)) 1 : Nat), .int .u64 ((Bloom.of f2 (b.take j)) 2 : Nat), .int .u64 ((Bloom.of f2 (b.take j)) 3 : Nat)] ∧ Blk wr (w.heap.size + 1) 26 #[.int .i64 k, .int .u64 (n : Nat), .string s] ∧ Ext w wr) (fun c _ => lb - (intOf c).toNat)
      case atStart => exact ⟨0, Nat.zero_le _, rfl, BF.out, BC.out, X.out⟩
      case round =>
        obtain ⟨j, hi, rfl, hBF, hBC, hX⟩ := hrel
        by_cases hlt : j < lb
        · have hia : j < b.length := by rw [HBL.out]; exact hlt
          obtain ⟨b1, o1, e1, l1, c0, c1, c2⟩ := rd_at RB.out j hia
          subst e1
          have HT := hid (of_take f2 b j hia)
          have hok := OKB.out b[j] (List.getElem_mem hia)
          have HFI := hid (Bloom.of_ok HF2.out (b.take j))
          obtain ⟨ci, hci⟩ : ∃ ci, ci = b[j] := ⟨_, rfl⟩
          rw [← hci] at HT hok c0 c1 c2
          obtain ⟨fi, hfi⟩ : ∃ fi, fi = Bloom.of f2 (b.take j) := ⟨_, rfl⟩
          rw [← hfi] at HT HFI hBF
          obtain ⟨kk, nn, ss⟩ := ci
          have GA : Gives Try.prog 11 #[.agg #[.int .u64 (fi 0 : Nat), .int .u64 (fi 1 : Nat), .int .u64 (fi 2 : Nat), .int .u64 (fi 3 : Nat)], .agg #[.int .i64 kk, .int .u64 (nn : Nat), .string ss]] (.agg #[.int .u64 ((Bloom.add fi ⟨kk, nn, ss⟩) 0 : Nat), .int .u64 ((Bloom.add fi ⟨kk, nn, ss⟩) 1 : Nat), .int .u64 ((Bloom.add fi ⟨kk, nn, ss⟩) 2 : Nat), .int .u64 ((Bloom.add fi ⟨kk, nn, ss⟩) 3 : Nat)]) := fun w => add_f_any fi kk nn ss w HFI.out hok.1 hok.2
          have d0 := ext_cell hX c0
          have d1 := ext_cell hX c1
          have d2 := ext_cell hX c2
          obtain ⟨p0, p1, p2, p3⟩ : wr.cell? ⟨w.heap.size, 0, none⟩ = some (.int .u64 (fi 0 : Nat)) ∧ wr.cell? ⟨w.heap.size, 1, none⟩ = some (.int .u64 (fi 1 : Nat)) ∧ wr.cell? ⟨w.heap.size, 2, none⟩ = some (.int .u64 (fi 2 : Nat)) ∧ wr.cell? ⟨w.heap.size, 3, none⟩ = some (.int .u64 (fi 3 : Nat)) := ⟨hBF.cell 0, hBF.cell 1, hBF.cell 2, hBF.cell 3⟩
          have p0r := cell_regrown p0
          have p1r := cell_regrown p1
          have p2r := cell_regrown p2
          have p3r := cell_regrown p3
          have d0r := cell_regrown d0
          have d1r := cell_regrown d1
          have d2r := cell_regrown d2
          have HBF := hid hBF
          have HBC := hid hBC
          have HX := hid hX
          clear c0 c1 c2 hok hci hfi hBF hBC hX l1 hia
          go_wp2_with fail
          refine wp_region_quiet_tail 6 (by kernel_rfl) (by kernel_rfl) ?_
          simp only [List.take_succ_cons, List.take_zero, List.drop_succ_cons, List.drop_zero]
          repeat (go_big_quiet_step ((go_at_call 11; with_reducible exact GA.quiet _ _ _)))
          refine wpQuiet_nil ?_
          intro w8 hw8
          have X8 : Ext wr w8 := by obtain ⟨p, rfl⟩ := hw8; exact ext_regrown _ p
          replace HX := hid (HX.out.then X8)
          replace HBF := hid (HBF.out.keep X8)
          replace HBC := hid (HBC.out.keep X8)
          clear hw8 X8 p0 p0r p1 p1r p2 p2r p3 p3r d0 d0r d1 d1r d2 d2r
          refine wpList_store_blk rfl 23 (.tmp 4) (.tmp 37) rfl w.heap.size #[.int .u64 ((Bloom.add fi ⟨kk, nn, ss⟩) 0 : Nat), .int .u64 ((Bloom.add fi ⟨kk, nn, ss⟩) 1 : Nat), .int .u64 ((Bloom.add fi ⟨kk, nn, ss⟩) 2 : Nat), .int .u64 ((Bloom.add fi ⟨kk, nn, ss⟩) 3 : Nat)] rfl rfl 23 _ HBF.out (by kernel_rfl) rfl (by simp [Value.oneCell']) w.heap.size (Nat.le_refl _) ?_
          intro w9 hB9 hF9 hL9
          have HBF9 := hid hB9
          have HBC9 := hid (hF9 _ _ _ (by omega) HBC.out)
          have HX9 : Hid (Ext w w9) := hid (Below.trans HX.out hL9)
          clear hB9 hF9 hL9
          refine wpList_nil ?_
          simp only [Act.put]
          go_wp2
          go_roundw
          case rel => exact ⟨j + 1, by omega, by go_num, by rw [HT.out]; exact HBF9.out, HBC9.out, HX9.out⟩
          case measure => simp [intOf]; omega

        · obtain rfl : j = lb := by omega
          have e2 : b.take j = b := List.take_of_length_le (by rw [HBL.out]; exact Nat.le_refl _)
          rw [e2] at hBF
          have HF3 := hid (Bloom.of_ok HF2.out b)
          have hmay : Bloom.may (Bloom.of f2 b) ⟨k, n, s⟩ = true := Bloom.may_of _ _ _ (by rw [HF2E.out]; exact Bloom.may_add _ _)
          have hadd := Bloom.add_of_may _ _ hmay
          obtain ⟨f3, hf3⟩ : ∃ f3, f3 = Bloom.of f2 b := ⟨_, rfl⟩
          rw [← hf3] at hBF HF3 hmay hadd
          have GM : Gives Try.prog 13 #[.agg #[.int .u64 (f3 0 : Nat), .int .u64 (f3 1 : Nat), .int .u64 (f3 2 : Nat), .int .u64 (f3 3 : Nat)], .agg #[.int .i64 k, .int .u64 (n : Nat), .string s]] (.bool true) := fun w => by have h := may_f_any f3 k n s w HF3.out HNN.out HSS.out; rw [hmay] at h; exact h
          have GA3 : Gives Try.prog 11 #[.agg #[.int .u64 (f3 0 : Nat), .int .u64 (f3 1 : Nat), .int .u64 (f3 2 : Nat), .int .u64 (f3 3 : Nat)], .agg #[.int .i64 k, .int .u64 (n : Nat), .string s]] (.agg #[.int .u64 (f3 0 : Nat), .int .u64 (f3 1 : Nat), .int .u64 (f3 2 : Nat), .int .u64 (f3 3 : Nat)]) := fun w => by have h := add_f_any f3 k n s w HF3.out HNN.out HSS.out; rw [hadd] at h; exact h
          have hokl : C.okL (a ++ [⟨k, n, s⟩] ++ b) := fun c hc => by
            rcases List.mem_append.1 hc with h | h
            · rcases List.mem_append.1 h with h | h
              · exact OKA.out c h
              · rw [List.mem_singleton] at h; subst h; exact ⟨HNN.out, HSS.out⟩
            · exact OKB.out c h
          have hT : Bloom.may (Bloom.of Bloom.none (a ++ [⟨k, n, s⟩] ++ b)) ⟨k, n, s⟩ = true := Bloom.may_in _ _ _ _
          have hTo := Bloom.of_ok Bloom.none_ok (a ++ [⟨k, n, s⟩] ++ b)
          have HV := hid (fun w' D c (hr : Rd w' D ([] ++ a.flatMap C.cells ++ #[.int .i64 k, .int .u64 (n : Nat), .string s].toList ++ b.flatMap C.cells)) => of_f_any (a ++ [⟨k, n, s⟩] ++ b) (i + 1 + j) D c w' (by rw [List.flatMap_append, List.flatMap_append]; exact hr) hokl (by simp only [List.length_append, List.length_cons, List.length_nil, HAL.out, HBL.out]) (by have := HLA.out; have := HLB.out; omega))
          obtain ⟨f4, hf4⟩ : ∃ f4, f4 = Bloom.of Bloom.none (a ++ [⟨k, n, s⟩] ++ b) := ⟨_, rfl⟩
          rw [← hf4] at hT hTo HV
          have GT : Gives Try.prog 13 #[.agg #[.int .u64 (f4 0 : Nat), .int .u64 (f4 1 : Nat), .int .u64 (f4 2 : Nat), .int .u64 (f4 3 : Nat)], .agg #[.int .i64 k, .int .u64 (n : Nat), .string s]] (.bool true) := fun w => by have h := may_f_any f4 k n s w hTo HNN.out HSS.out; rw [hT] at h; exact h
          have hqq := fun w => eqT 23 und23 (f3 0 : Nat) (f3 1 : Nat) (f3 2 : Nat) (f3 3 : Nat) (f3 0 : Nat) (f3 1 : Nat) (f3 2 : Nat) (f3 3 : Nat) w
          simp only [beq_self_eq_true, Bool.and_self] at hqq
          clear hf4 hT hTo hokl hmay hadd hf3 e2
          go_wp2_with fail
          refine wp_gen (fun W => Ext w W ∧ Blk W w.heap.size 23 #[.int .u64 (f3 0 : Nat), .int .u64 (f3 1 : Nat), .int .u64 (f3 2 : Nat), .int .u64 (f3 3 : Nat)] ∧ Blk W (w.heap.size + 1) 26 #[.int .i64 k, .int .u64 (n : Nat), .string s]) ⟨hX, hBF, hBC⟩ ?_
          rintro W ⟨XW, B1, B2⟩
          clear hX hBF hBC BF BC X
          have XW := hid XW
          obtain ⟨p0, p1, p2, p3⟩ : W.cell? ⟨w.heap.size, 0, none⟩ = some (.int .u64 (f3 0 : Nat)) ∧ W.cell? ⟨w.heap.size, 1, none⟩ = some (.int .u64 (f3 1 : Nat)) ∧ W.cell? ⟨w.heap.size, 2, none⟩ = some (.int .u64 (f3 2 : Nat)) ∧ W.cell? ⟨w.heap.size, 3, none⟩ = some (.int .u64 (f3 3 : Nat)) := ⟨B1.cell 0, B1.cell 1, B1.cell 2, B1.cell 3⟩
          obtain ⟨q0, q1, q2⟩ : W.cell? ⟨w.heap.size + 1, 0, none⟩ = some (.int .i64 k) ∧ W.cell? ⟨w.heap.size + 1, 1, none⟩ = some (.int .u64 (n : Nat)) ∧ W.cell? ⟨w.heap.size + 1, 2, none⟩ = some (.string s) := ⟨B2.cell 0, B2.cell 1, B2.cell 2⟩
          have p0r := cell_regrown p0
          have p1r := cell_regrown p1
          have p2r := cell_regrown p2
          have p3r := cell_regrown p3
          have q0r := cell_regrown q0
          have q1r := cell_regrown q1
          have q2r := cell_regrown q2
          clear B1 B2 p0 p1 p2 p3 q0 q1 q2
          refine wp_region_tree (.one 0 false (.one 1 true (.one 2 true (.one 3 true (.one 4 false (.one 5 true (.one 6 true (.one 7 true (.one 8 true (.one 10 true (.one 9 false (.one 11 true (.one 12 true (.one 13 true (.one 15 true (.one 17 true (.one 20 true (.one 23 true (.two 14 18 (.two 16 18 (.one 18 false (.one 19 false (.one 21 false (.one 22 false (.one 24 false (.one 25 true (.one 26 true (.nil)))))))) (.one 16 false (.one 19 false (.one 21 false (.one 22 false (.one 24 false (.one 25 true (.one 26 true (.nil))))))))) (.one 14 false (.one 16 false (.one 19 false (.one 21 false (.one 22 false (.one 24 false (.one 25 true (.one 26 true (.nil)))))))))))))))))))))))))))) (by kernel_rfl) (by kernel_rfl) (fun _ _ _ _ _ h => h) (by kernel_rfl) (by rfl) ?_
          simp only [fillT, List.getD_cons_zero, List.getD_cons_succ]
          have X0 := (ext_refl W).draw
          repeat (first | (refine wpTO_skip (by rfl) ?_; simp only [Act.put, List.setIfInBounds_toArray, List.set_cons_zero, List.set_cons_succ]) | (refine wpTO_val (by rfl) ?_; intro K hK; go_big_quiet_op; go_big_quiet_on))
          refine wpTO_do (by rfl) ?_
          intro K hK
          go_simp
          refine Calls.mono (bbegun_any _) ?_
          rintro e x1 ⟨rfl, hx⟩
          have X1 := X0.then hx
          refine hK _ _ X1 ?_
          clear K hK hx
          repeat (first | (refine wpTO_skip (by rfl) ?_; simp only [Act.put, List.setIfInBounds_toArray, List.set_cons_zero, List.set_cons_succ]) | (refine wpTO_val (by rfl) ?_; intro K hK; go_big_quiet_op; go_big_quiet_on))
          refine wpTO_do (by rfl) ?_
          intro K hK
          go_simp
          refine Calls.mono (GM _) ?_
          rintro e x2 ⟨rfl, hx⟩
          have X2 := X1.then hx
          refine hK _ _ X2 ?_
          clear K hK hx
          repeat (first | (refine wpTO_skip (by rfl) ?_; simp only [Act.put, List.setIfInBounds_toArray, List.set_cons_zero, List.set_cons_succ]) | (refine wpTO_val (by rfl) ?_; intro K hK; go_big_quiet_op; go_big_quiet_on))
          refine wpTO_do (by rfl) ?_
          intro K hK
          go_simp
          refine Calls.mono (GA3 _) ?_
          rintro e x3 ⟨rfl, hx⟩
          have X3 := X2.then hx
          refine hK _ _ X3 ?_
          clear K hK hx
          repeat (first | (refine wpTO_skip (by rfl) ?_; simp only [Act.put, List.setIfInBounds_toArray, List.set_cons_zero, List.set_cons_succ]) | (refine wpTO_val (by rfl) ?_; intro K hK; go_big_quiet_op; go_big_quiet_on))
          refine wpTO_two ?_ ?_
          · refine wpTO_do (by rfl) ?_
            intro K hK
            go_simp
            have HOW := own_new (w := x3) (e := 26) (size := 3) (base := W.heap.size) (n := 0) (C := #[]) (g := x3.heap.size) rfl rfl X3.size (Nat.zero_le _)
            have HG14 := X3.size
            have X4 := Ext.new X3 (.cells #[] 26)
            refine hK _ _ X4 ?_
            clear K hK
            repeat (first | (refine wpTO_skip (by rfl) ?_; simp only [Act.put, List.setIfInBounds_toArray, List.set_cons_zero, List.set_cons_succ]) | (refine wpTO_val (by rfl) ?_; intro K hK; go_big_quiet_op; go_big_quiet_on))
            refine wpTO_two ?_ ?_
            · refine wpTO_do (by rfl) ?_
              intro K hK
              refine wp_app (.tmp 52) (.tmp 53) rowCl rfl _ 0 [] rfl HOW _ i (a.flatMap C.cells) rfl (Src.rd Try.underlying24 A i ca _ (by rw [flat_length (m := 3) (fun _ => rfl), HAL.out]) (RA.out.keep (XW.out.then X4)) (cells_one _) (fun h => by rw [← HAL.out]; exact rd_none RA.out h)) (by have := HLA.out; unfold maxLen; omega) (by have := HLA.out; omega) X4.size ?_
              intro v1 x5 hown1 hgr _ hbel
              have X5 : Ext W x5 := Below.trans X4 hbel
              refine hK _ _ X5 ?_
              clear K hK hbel
              simp only [Act.put, List.setIfInBounds_toArray, List.set_cons_zero, List.set_cons_succ]
              repeat (first | (refine wpTO_skip (by rfl) ?_; simp only [Act.put, List.setIfInBounds_toArray, List.set_cons_zero, List.set_cons_succ]) | (refine wpTO_val (by rfl) ?_; intro K hK; go_big_quiet_op; go_big_quiet_on))
              refine wpTO_do (by rfl) ?_
              intro K hK
              go_simp
              have X6 := Ext.new X5 (.cells #[.int .i64 k, .int .u64 (n : Nat), .string s] 26)
              refine hK _ _ X6 ?_
              clear K hK
              repeat (first | (refine wpTO_skip (by rfl) ?_; simp only [Act.put, List.setIfInBounds_toArray, List.set_cons_zero, List.set_cons_succ]) | (refine wpTO_val (by rfl) ?_; intro K hK; go_big_quiet_op; go_big_quiet_on))
              refine wpTO_do (by rfl) ?_
              intro K hK
              refine wp_app (.tmp 54) (.tmp 56) rowCl rfl _ (0 + i) ([] ++ a.flatMap C.cells) rfl (own_ext hown1 (Ext.new (ext_refl _) _)) _ 1 #[.int .i64 k, .int .u64 (n : Nat), .string s].toList rfl (Src.rd Try.underlying24 _ 1 1 _ rfl (rd_lit rfl rfl) (fun u hu => by simp only [List.mem_cons, List.not_mem_nil, or_false] at hu; rcases hu with rfl | rfl | rfl <;> rfl) (fun h => by cases h)) (by have := HLA.out; unfold maxLen; omega) (by have := HLA.out; omega) X6.size ?_
              intro v2 y1 hown2 _ _ hbel2
              have Y1 : Ext W y1 := Below.trans X6 hbel2
              refine hK _ _ Y1 ?_
              clear K hK hbel2
              simp only [Act.put, List.setIfInBounds_toArray, List.set_cons_zero, List.set_cons_succ]
              repeat (first | (refine wpTO_skip (by rfl) ?_; simp only [Act.put, List.setIfInBounds_toArray, List.set_cons_zero, List.set_cons_succ]) | (refine wpTO_val (by rfl) ?_; intro K hK; go_big_quiet_op; go_big_quiet_on))
              refine wpTO_do (by rfl) ?_
              intro K hK
              refine wp_app (.tmp 57) (.tmp 58) rowCl rfl _ (0 + i + 1) ([] ++ a.flatMap C.cells ++ #[.int .i64 k, .int .u64 (n : Nat), .string s].toList) rfl hown2 _ j (b.flatMap C.cells) rfl (Src.rd Try.underlying24 B j cb _ (by rw [flat_length (m := 3) (fun _ => rfl), HBL.out]) (RB.out.keep (XW.out.then Y1)) (cells_one _) (fun h => by rw [← HBL.out]; exact rd_none RB.out h)) (by have := HLA.out; have := HLB.out; unfold maxLen; omega) (by have := HLA.out; have := HLB.out; omega) Y1.size ?_
              intro v3 y2 hown3 _ _ hbel3
              have Y2 : Ext W y2 := Below.trans Y1 hbel3
              refine hK _ _ Y2 ?_
              clear K hK hbel3 hown2
              obtain ⟨D, dc, rfl, hrd, _, _, _⟩ := Rd.owned hown3
              simp only [Nat.zero_add, Act.put, List.setIfInBounds_toArray, List.set_cons_zero, List.set_cons_succ]
              repeat (first | (refine wpTO_skip (by rfl) ?_; simp only [Act.put, List.setIfInBounds_toArray, List.set_cons_zero, List.set_cons_succ]) | (refine wpTO_val (by rfl) ?_; intro K hK; go_big_quiet_op; go_big_quiet_on))
              refine wpTO_do (by rfl) ?_
              intro K hK
              go_simp
              refine Calls.mono (HV.out _ _ _ hrd) ?_
              rintro e y3 ⟨rfl, hx⟩
              have Y3 := Y2.then hx
              refine hK _ _ Y3 ?_
              clear K hK hx
              repeat (first | (refine wpTO_skip (by rfl) ?_; simp only [Act.put, List.setIfInBounds_toArray, List.set_cons_zero, List.set_cons_succ]) | (refine wpTO_val (by rfl) ?_; intro K hK; go_big_quiet_op; go_big_quiet_on))
              refine wpTO_do (by rfl) ?_
              intro K hK
              go_simp
              refine Calls.mono (GT _) ?_
              rintro e y4 ⟨rfl, hx⟩
              have Y4 := Y3.then hx
              refine hK _ _ Y4 ?_
              clear K hK hx
              repeat (first | (refine wpTO_skip (by rfl) ?_; simp only [Act.put, List.setIfInBounds_toArray, List.set_cons_zero, List.set_cons_succ]) | (refine wpTO_val (by rfl) ?_; intro K hK; go_big_quiet_op; go_big_quiet_on))
              refine wpTO_nil ?_
              have XE := hid (XW.out.then Y4)
              clear p0r p1r p2r p3r q0r q1r q2r
              go_wp2
              go_returns
              exact ⟨rfl, XE.out⟩
            · refine wpTO_do (by rfl) ?_
              intro K hK
              go_simp
              have X5 := Ext.new X4 (.cells #[.int .i64 k, .int .u64 (n : Nat), .string s] 26)
              refine hK _ _ X5 ?_
              clear K hK
              have HB18 := Blk.newAt (w := x3.alloc (.cells #[] 26)) (g := x3.heap.size + 1) (t := 26) (cs := #[.int .i64 k, .int .u64 (n : Nat), .string s]) (by simp)
              repeat (first | (refine wpTO_skip (by rfl) ?_; simp only [Act.put, List.setIfInBounds_toArray, List.set_cons_zero, List.set_cons_succ]) | (refine wpTO_val (by rfl) ?_; intro K hK; go_big_quiet_op; go_big_quiet_on))
              refine wpTO_do (by rfl) ?_
              intro K hK
              refine wp_app (.tmp 52) (.tmp 53) rowCl rfl _ 0 [] rfl (own_ext HOW (Ext.new (ext_refl _) _)) _ i (a.flatMap C.cells) rfl (Src.rd Try.underlying24 A i ca _ (by rw [flat_length (m := 3) (fun _ => rfl), HAL.out]) (RA.out.keep (XW.out.then X5)) (cells_one _) (fun h => by rw [← HAL.out]; exact rd_none RA.out h)) (by have := HLA.out; unfold maxLen; omega) (by have := HLA.out; omega) X5.size ?_
              intro v1 x6 hown1 hgr _ hbel
              have X6 : Ext W x6 := Below.trans X5 hbel
              have HB19 := blk_rd (blk_grown HB18 hgr (fun h => by have h2 : (some x3.heap.size : Option Nat) = some (x3.heap.size + 1) := h; simp at h2))
              refine hK _ _ X6 ?_
              clear K hK hbel
              simp only [Act.put, List.setIfInBounds_toArray, List.set_cons_zero, List.set_cons_succ]
              repeat (first | (refine wpTO_skip (by rfl) ?_; simp only [Act.put, List.setIfInBounds_toArray, List.set_cons_zero, List.set_cons_succ]) | (refine wpTO_val (by rfl) ?_; intro K hK; go_big_quiet_op; go_big_quiet_on))
              refine wpTO_do (by rfl) ?_
              intro K hK
              refine wp_app (.tmp 54) (.tmp 56) rowCl rfl _ (0 + i) ([] ++ a.flatMap C.cells) rfl hown1 _ 1 #[.int .i64 k, .int .u64 (n : Nat), .string s].toList rfl (Src.rd Try.underlying24 _ 1 1 _ rfl HB19 (fun u hu => by simp only [List.mem_cons, List.not_mem_nil, or_false] at hu; rcases hu with rfl | rfl | rfl <;> rfl) (fun h => by cases h)) (by have := HLA.out; unfold maxLen; omega) (by have := HLA.out; omega) X6.size ?_
              intro v2 y1 hown2 _ _ hbel2
              have Y1 : Ext W y1 := Below.trans X6 hbel2
              refine hK _ _ Y1 ?_
              clear K hK hbel2
              simp only [Act.put, List.setIfInBounds_toArray, List.set_cons_zero, List.set_cons_succ]
              repeat (first | (refine wpTO_skip (by rfl) ?_; simp only [Act.put, List.setIfInBounds_toArray, List.set_cons_zero, List.set_cons_succ]) | (refine wpTO_val (by rfl) ?_; intro K hK; go_big_quiet_op; go_big_quiet_on))
              refine wpTO_do (by rfl) ?_
              intro K hK
              refine wp_app (.tmp 57) (.tmp 58) rowCl rfl _ (0 + i + 1) ([] ++ a.flatMap C.cells ++ #[.int .i64 k, .int .u64 (n : Nat), .string s].toList) rfl hown2 _ j (b.flatMap C.cells) rfl (Src.rd Try.underlying24 B j cb _ (by rw [flat_length (m := 3) (fun _ => rfl), HBL.out]) (RB.out.keep (XW.out.then Y1)) (cells_one _) (fun h => by rw [← HBL.out]; exact rd_none RB.out h)) (by have := HLA.out; have := HLB.out; unfold maxLen; omega) (by have := HLA.out; have := HLB.out; omega) Y1.size ?_
              intro v3 y2 hown3 _ _ hbel3
              have Y2 : Ext W y2 := Below.trans Y1 hbel3
              refine hK _ _ Y2 ?_
              clear K hK hbel3 hown2
              obtain ⟨D, dc, rfl, hrd, _, _, _⟩ := Rd.owned hown3
              simp only [Nat.zero_add, Act.put, List.setIfInBounds_toArray, List.set_cons_zero, List.set_cons_succ]
              repeat (first | (refine wpTO_skip (by rfl) ?_; simp only [Act.put, List.setIfInBounds_toArray, List.set_cons_zero, List.set_cons_succ]) | (refine wpTO_val (by rfl) ?_; intro K hK; go_big_quiet_op; go_big_quiet_on))
              refine wpTO_do (by rfl) ?_
              intro K hK
              go_simp
              refine Calls.mono (HV.out _ _ _ hrd) ?_
              rintro e y3 ⟨rfl, hx⟩
              have Y3 := Y2.then hx
              refine hK _ _ Y3 ?_
              clear K hK hx
              repeat (first | (refine wpTO_skip (by rfl) ?_; simp only [Act.put, List.setIfInBounds_toArray, List.set_cons_zero, List.set_cons_succ]) | (refine wpTO_val (by rfl) ?_; intro K hK; go_big_quiet_op; go_big_quiet_on))
              refine wpTO_do (by rfl) ?_
              intro K hK
              go_simp
              refine Calls.mono (GT _) ?_
              rintro e y4 ⟨rfl, hx⟩
              have Y4 := Y3.then hx
              refine hK _ _ Y4 ?_
              clear K hK hx
              repeat (first | (refine wpTO_skip (by rfl) ?_; simp only [Act.put, List.setIfInBounds_toArray, List.set_cons_zero, List.set_cons_succ]) | (refine wpTO_val (by rfl) ?_; intro K hK; go_big_quiet_op; go_big_quiet_on))
              refine wpTO_nil ?_
              have XE := hid (XW.out.then Y4)
              clear p0r p1r p2r p3r q0r q1r q2r
              go_wp2
              go_returns
              exact ⟨rfl, XE.out⟩
          · refine wpTO_do (by rfl) ?_
            intro K hK
            go_simp
            have X4 := Ext.new X3 (.cells #[.int .i64 k, .int .u64 (n : Nat), .string s] 26)
            refine hK _ _ X4 ?_
            clear K hK
            have HB18 := Blk.new x3 26 #[.int .i64 k, .int .u64 (n : Nat), .string s]
            repeat (first | (refine wpTO_skip (by rfl) ?_; simp only [Act.put, List.setIfInBounds_toArray, List.set_cons_zero, List.set_cons_succ]) | (refine wpTO_val (by rfl) ?_; intro K hK; go_big_quiet_op; go_big_quiet_on))
            refine wpTO_do (by rfl) ?_
            intro K hK
            go_simp
            have HOW := own_new (w := x3.alloc (.cells #[.int .i64 k, .int .u64 (n : Nat), .string s] 26)) (e := 26) (size := 3) (base := W.heap.size) (n := 0) (C := #[]) (g := x3.heap.size + 1) (by simp) rfl X4.size (Nat.zero_le _)
            have X5 := Ext.new X4 (.cells #[] 26)
            refine hK _ _ X5 ?_
            clear K hK
            repeat (first | (refine wpTO_skip (by rfl) ?_; simp only [Act.put, List.setIfInBounds_toArray, List.set_cons_zero, List.set_cons_succ]) | (refine wpTO_val (by rfl) ?_; intro K hK; go_big_quiet_op; go_big_quiet_on))
            refine wpTO_do (by rfl) ?_
            intro K hK
            refine wp_app (.tmp 52) (.tmp 53) rowCl rfl _ 0 [] rfl HOW _ i (a.flatMap C.cells) rfl (Src.rd Try.underlying24 A i ca _ (by rw [flat_length (m := 3) (fun _ => rfl), HAL.out]) (RA.out.keep (XW.out.then X5)) (cells_one _) (fun h => by rw [← HAL.out]; exact rd_none RA.out h)) (by have := HLA.out; unfold maxLen; omega) (by have := HLA.out; omega) X5.size ?_
            intro v1 x6 hown1 hgr _ hbel
            have X6 : Ext W x6 := Below.trans X5 hbel
            have HB19 := blk_rd (blk_grown (HB18.alloc _) hgr (fun h => by have h2 : (some (x3.heap.size + 1) : Option Nat) = some x3.heap.size := h; simp at h2))
            refine hK _ _ X6 ?_
            clear K hK hbel
            simp only [Act.put, List.setIfInBounds_toArray, List.set_cons_zero, List.set_cons_succ]
            repeat (first | (refine wpTO_skip (by rfl) ?_; simp only [Act.put, List.setIfInBounds_toArray, List.set_cons_zero, List.set_cons_succ]) | (refine wpTO_val (by rfl) ?_; intro K hK; go_big_quiet_op; go_big_quiet_on))
            refine wpTO_do (by rfl) ?_
            intro K hK
            refine wp_app (.tmp 54) (.tmp 56) rowCl rfl _ (0 + i) ([] ++ a.flatMap C.cells) rfl hown1 _ 1 #[.int .i64 k, .int .u64 (n : Nat), .string s].toList rfl (Src.rd Try.underlying24 _ 1 1 _ rfl HB19 (fun u hu => by simp only [List.mem_cons, List.not_mem_nil, or_false] at hu; rcases hu with rfl | rfl | rfl <;> rfl) (fun h => by cases h)) (by have := HLA.out; unfold maxLen; omega) (by have := HLA.out; omega) X6.size ?_
            intro v2 y1 hown2 _ _ hbel2
            have Y1 : Ext W y1 := Below.trans X6 hbel2
            refine hK _ _ Y1 ?_
            clear K hK hbel2
            simp only [Act.put, List.setIfInBounds_toArray, List.set_cons_zero, List.set_cons_succ]
            repeat (first | (refine wpTO_skip (by rfl) ?_; simp only [Act.put, List.setIfInBounds_toArray, List.set_cons_zero, List.set_cons_succ]) | (refine wpTO_val (by rfl) ?_; intro K hK; go_big_quiet_op; go_big_quiet_on))
            refine wpTO_do (by rfl) ?_
            intro K hK
            refine wp_app (.tmp 57) (.tmp 58) rowCl rfl _ (0 + i + 1) ([] ++ a.flatMap C.cells ++ #[.int .i64 k, .int .u64 (n : Nat), .string s].toList) rfl hown2 _ j (b.flatMap C.cells) rfl (Src.rd Try.underlying24 B j cb _ (by rw [flat_length (m := 3) (fun _ => rfl), HBL.out]) (RB.out.keep (XW.out.then Y1)) (cells_one _) (fun h => by rw [← HBL.out]; exact rd_none RB.out h)) (by have := HLA.out; have := HLB.out; unfold maxLen; omega) (by have := HLA.out; have := HLB.out; omega) Y1.size ?_
            intro v3 y2 hown3 _ _ hbel3
            have Y2 : Ext W y2 := Below.trans Y1 hbel3
            refine hK _ _ Y2 ?_
            clear K hK hbel3 hown2
            obtain ⟨D, dc, rfl, hrd, _, _, _⟩ := Rd.owned hown3
            simp only [Nat.zero_add, Act.put, List.setIfInBounds_toArray, List.set_cons_zero, List.set_cons_succ]
            repeat (first | (refine wpTO_skip (by rfl) ?_; simp only [Act.put, List.setIfInBounds_toArray, List.set_cons_zero, List.set_cons_succ]) | (refine wpTO_val (by rfl) ?_; intro K hK; go_big_quiet_op; go_big_quiet_on))
            refine wpTO_do (by rfl) ?_
            intro K hK
            go_simp
            refine Calls.mono (HV.out _ _ _ hrd) ?_
            rintro e y3 ⟨rfl, hx⟩
            have Y3 := Y2.then hx
            refine hK _ _ Y3 ?_
            clear K hK hx
            repeat (first | (refine wpTO_skip (by rfl) ?_; simp only [Act.put, List.setIfInBounds_toArray, List.set_cons_zero, List.set_cons_succ]) | (refine wpTO_val (by rfl) ?_; intro K hK; go_big_quiet_op; go_big_quiet_on))
            refine wpTO_do (by rfl) ?_
            intro K hK
            go_simp
            refine Calls.mono (GT _) ?_
            rintro e y4 ⟨rfl, hx⟩
            have Y4 := Y3.then hx
            refine hK _ _ Y4 ?_
            clear K hK hx
            repeat (first | (refine wpTO_skip (by rfl) ?_; simp only [Act.put, List.setIfInBounds_toArray, List.set_cons_zero, List.set_cons_succ]) | (refine wpTO_val (by rfl) ?_; intro K hK; go_big_quiet_op; go_big_quiet_on))
            refine wpTO_nil ?_
            have XE := hid (XW.out.then Y4)
            clear p0r p1r p2r p3r q0r q1r q2r
            go_wp2
            go_returns
            exact ⟨rfl, XE.out⟩
end Go.Proofs.Ytiamfjfbmgijhaa
