/- Conditions: the closed test: walk (printed by gen_qpv.py). Conditions: the laws PredTells, PruneTells: walks. -/
import Derived.Test.YtpheegfanljeeaaQbc
import Derived.Test.YtpheegfanljeeaaCnm
section
namespace Hy.Cnd
def pA : List Cnd := [(3, 0, 1, 5, ByteArray.empty), (4, 1, 0, 0, ByteArray.empty), (7, 0, 0, 0, ByteArray.empty), (5, 0, 0, 0, ByteArray.empty)]
def rA : List Cel := [(1, 6, ByteArray.empty), (2, 0, ⟨#[97]⟩)]
def rB : List Cel := [(0, 0, ByteArray.empty), (2, 0, ⟨#[97]⟩)]
def rC : List Cel := [(1, 6, ByteArray.empty)]
def sA : List Sta := [(2, 0, (1, 1, ByteArray.empty), 1, 5, ByteArray.empty), (2, 1, (2, 0, ⟨#[97]⟩), 2, 0, ⟨#[97]⟩)]
def fA : List Bloom.F := [Bloom.none, Bloom.none]
theorem ask_a : ask [1, 2] pA rA = (2, 0) := by decide +kernel
theorem ask_b : ask [1, 2] pA rB = (1, 0) := by decide +kernel
theorem ask_c : ask [1] pA rC = (0, 3) := by decide +kernel
theorem prn_a : prn [1, 2] pA sA fA = (1, 0) := by decide +kernel
theorem chk_a : chk [1, 2] (pA.take 2) = 1 := by decide +kernel
theorem pA_ok : ∀ c ∈ pA, c.2.2.2.1 < 18446744073709551616 := by decide +kernel
theorem fA_ok : ∀ f ∈ fA, f.ok := fun f hf => by
  simp only [fA, List.mem_cons, List.not_mem_nil, or_false, or_self] at hf
  subst hf; exact Bloom.none_ok
end Hy.Cnd
namespace Go.Proofs.Ytpheegfanljeeaa
open Go.RowKit Hy
theorem cText_any (s : ByteArray) (w : World) : Calls Try.prog 46 #[.string s] w fun e w' => e = .returned (.agg #[.int .i64 2, .int .u64 0, .string s]) ∧ Ext w w' := by
  go_enter Try.func46, Try.ntmps46
  go_wp2
  go_returns
  exact ⟨rfl, Ext.new (ext_refl _) _⟩
theorem cOp_any (op : Int) (w : World) : Calls Try.prog 21 #[.int .i64 op] w fun e w' => e = .returned (.agg #[.int .i64 op, .int .i64 0, .int .i64 0, .int .u64 0, .string .empty]) ∧ Ext w w' := by
  go_enter Try.func21, Try.ntmps21
  go_wp2
  go_returns
  exact ⟨rfl, Ext.new (ext_refl _) _⟩
theorem conds_any (A : Option Addr) (n c : Nat) (w : World) : Calls Try.prog 43 #[.slice A n c] w fun e w' => e = .returned (.slice A n c) ∧ w = w' := by
  go_enter Try.func43, Try.ntmps43
  go_wp2
  go_returns
  exact ⟨rfl, rfl⟩
theorem mk2 (w : World) : (Instr.makeSlice 32 (.int .i64 2) (.int .i64 2)).run Try.prog w = .ok (.slice (some ⟨w.heap.size, 0, none⟩) 2 2) (w.alloc (.cells #[.int .u64 0, .int .u64 0, .int .u64 0, .int .u64 0, .int .u64 0, .int .u64 0, .int .u64 0, .int .u64 0] 48)) := by kernel_rfl
set_option maxHeartbeats 3200000 in
set_option maxRecDepth 100000 in
theorem predBegun_any (w : World) : Calls Try.prog 16 #[] w fun e w' => e = .returned (.bool true) ∧ Ext w w' := by
  have RK := hid (rd_lit (w := w) (g := w.heap.size) (C := #[.int .i64 1, .int .i64 2]) (e := 3) (fz := (0, 0)) (cs := i64s [1, 2]) rfl rfl)
  have Xp := hid ((ext_refl w).new (.cells #[.int .i64 1, .int .i64 2] 3))
  go_enter Try.func16, Try.ntmps16
  go_wp2_with fail
  refine Calls.mono (cNum_any 5 _) ?_
  rintro e w1 ⟨rfl, hx⟩
  replace Xp := hid (Xp.out.then hx)
  replace RK := hid (RK.out.keep hx)
  clear hx
  go_wp2_with fail
  refine Calls.mono (cOp_any 7 _) ?_
  rintro e w2 ⟨rfl, hx⟩
  replace Xp := hid (Xp.out.then hx)
  replace RK := hid (RK.out.keep hx)
  clear hx
  go_wp2_with fail
  refine Calls.mono (cOp_any 5 _) ?_
  rintro e w3 ⟨rfl, hx⟩
  replace Xp := hid (Xp.out.then hx)
  replace RK := hid (RK.out.keep hx)
  clear hx
  go_wp2_with fail
  have RP := hid (rd_lit (w := w3) (g := w3.heap.size) (C := #[.int .i64 3, .int .i64 0, .int .i64 1, .int .u64 5, .string .empty, .int .i64 4, .int .i64 1, .int .i64 0, .int .u64 0, .string ⟨#[]⟩, .int .i64 7, .int .i64 0, .int .i64 0, .int .u64 0, .string .empty, .int .i64 5, .int .i64 0, .int .i64 0, .int .u64 0, .string .empty]) (e := 39) (fz := (0, 0)) (cs := cns Cnd.pA) rfl rfl)
  replace RK := hid (RK.out.keep (Ext.new (ext_refl _) (.cells #[.int .i64 3, .int .i64 0, .int .i64 1, .int .u64 5, .string .empty, .int .i64 4, .int .i64 1, .int .i64 0, .int .u64 0, .string ⟨#[]⟩, .int .i64 7, .int .i64 0, .int .i64 0, .int .u64 0, .string .empty, .int .i64 5, .int .i64 0, .int .i64 0, .int .u64 0, .string .empty] 39)))
  replace Xp := hid (Ext.new Xp.out (.cells #[.int .i64 3, .int .i64 0, .int .i64 1, .int .u64 5, .string .empty, .int .i64 4, .int .i64 1, .int .i64 0, .int .u64 0, .string ⟨#[]⟩, .int .i64 7, .int .i64 0, .int .i64 0, .int .u64 0, .string .empty, .int .i64 5, .int .i64 0, .int .i64 0, .int .u64 0, .string .empty] 39))
  refine Calls.mono (conds_any _ 4 4 _) ?_
  rintro e _ ⟨rfl, rfl⟩
  go_wp2_with fail
  refine Calls.mono (cNum_any 6 _) ?_
  rintro e w4 ⟨rfl, hx⟩
  replace Xp := hid (Xp.out.then hx)
  replace RK := hid (RK.out.keep hx)
  replace RP := hid (RP.out.keep hx)
  clear hx
  go_wp2_with fail
  refine Calls.mono (cText_any ⟨#[97]⟩ _) ?_
  rintro e w5 ⟨rfl, hx⟩
  replace Xp := hid (Xp.out.then hx)
  replace RK := hid (RK.out.keep hx)
  replace RP := hid (RP.out.keep hx)
  clear hx
  go_wp2_with fail
  have RR := hid (rd_lit (w := w5) (g := w5.heap.size) (C := #[.int .i64 1, .int .u64 6, .string .empty, .int .i64 2, .int .u64 0, .string ⟨#[97]⟩]) (e := 37) (fz := (0, 0)) (cs := cls Cnd.rA) rfl rfl)
  replace RK := hid (RK.out.keep (Ext.new (ext_refl _) (.cells #[.int .i64 1, .int .u64 6, .string .empty, .int .i64 2, .int .u64 0, .string ⟨#[97]⟩] 37)))
  replace RP := hid (RP.out.keep (Ext.new (ext_refl _) (.cells #[.int .i64 1, .int .u64 6, .string .empty, .int .i64 2, .int .u64 0, .string ⟨#[97]⟩] 37)))
  replace Xp := hid (Ext.new Xp.out (.cells #[.int .i64 1, .int .u64 6, .string .empty, .int .i64 2, .int .u64 0, .string ⟨#[97]⟩] 37))
  refine Calls.mono (cells_any _ 2 2 _) ?_
  rintro e _ ⟨rfl, rfl⟩
  go_wp2_with fail
  have CT := ask_any [1, 2] Cnd.pA Cnd.rA _ _ _ 4 4 2 2 2 2 _ rfl RP.out (by decide) rfl RK.out (by decide) rfl RR.out (by decide) (by decide)
  rw [Cnd.ask_a] at CT
  refine Calls.mono (CT) ?_
  rintro e w6 ⟨rfl, hx⟩
  replace Xp := hid (Xp.out.then hx)
  replace RK := hid (RK.out.keep hx)
  replace RP := hid (RP.out.keep hx)
  replace RR := hid (RR.out.keep hx)
  clear hx
  clear CT RR
  go_wp2_with fail
  refine Calls.mono (cText_any ⟨#[97]⟩ _) ?_
  rintro e w7 ⟨rfl, hx⟩
  replace Xp := hid (Xp.out.then hx)
  replace RK := hid (RK.out.keep hx)
  replace RP := hid (RP.out.keep hx)
  clear hx
  go_wp2_with fail
  have RR := hid (rd_lit (w := w7) (g := w7.heap.size) (C := #[.int .i64 0, .int .u64 0, .string ⟨#[]⟩, .int .i64 2, .int .u64 0, .string ⟨#[97]⟩]) (e := 37) (fz := (0, 0)) (cs := cls Cnd.rB) rfl rfl)
  replace RK := hid (RK.out.keep (Ext.new (ext_refl _) (.cells #[.int .i64 0, .int .u64 0, .string ⟨#[]⟩, .int .i64 2, .int .u64 0, .string ⟨#[97]⟩] 37)))
  replace RP := hid (RP.out.keep (Ext.new (ext_refl _) (.cells #[.int .i64 0, .int .u64 0, .string ⟨#[]⟩, .int .i64 2, .int .u64 0, .string ⟨#[97]⟩] 37)))
  replace Xp := hid (Ext.new Xp.out (.cells #[.int .i64 0, .int .u64 0, .string ⟨#[]⟩, .int .i64 2, .int .u64 0, .string ⟨#[97]⟩] 37))
  refine Calls.mono (cells_any _ 2 2 _) ?_
  rintro e _ ⟨rfl, rfl⟩
  go_wp2_with fail
  have CT := ask_any [1, 2] Cnd.pA Cnd.rB _ _ _ 4 4 2 2 2 2 _ rfl RP.out (by decide) rfl RK.out (by decide) rfl RR.out (by decide) (by decide)
  rw [Cnd.ask_b] at CT
  refine Calls.mono (CT) ?_
  rintro e w8 ⟨rfl, hx⟩
  replace Xp := hid (Xp.out.then hx)
  replace RK := hid (RK.out.keep hx)
  replace RP := hid (RP.out.keep hx)
  replace RR := hid (RR.out.keep hx)
  clear hx
  clear CT RR
  go_wp2_with fail
  have hmk := mk2
  have HPR : Hid (∀ (A B : Option Addr) (wx : World), Ext w8 wx → Rd wx A (sts Cnd.sA) → Rd wx B (frs Cnd.fA) → Calls Try.prog 19 #[.slice (some ⟨w3.heap.size, 0, none⟩) 4 4, .slice (some ⟨w.heap.size, 0, none⟩) 2 2, .slice A 2 2, .slice B 2 2] wx fun e w' => e = .returned (.tuple #[.int .i64 1, .int .i64 0]) ∧ Ext wx w') := hid (fun A B wx hx hA hB => by
    have CT := prune_any [1, 2] Cnd.pA Cnd.sA Cnd.fA _ _ _ _ 4 4 2 2 2 2 2 2 wx rfl (RP.out.keep hx) Cnd.pA_ok (by decide) rfl (RK.out.keep hx) (by decide) rfl hA (by decide) rfl hB (by decide) Cnd.fA_ok
    rw [Cnd.prn_a] at CT
    exact CT)
  refine wp_region_tree (.one 0 true (.one 1 true (.two 2 9 (.two 3 9 (.one 4 true (.two 5 9 (.two 6 9 (.one 7 true (.two 8 9 (.one 9 false (.one 10 false (.one 11 true (.one 12 true (.one 13 true (.one 14 true (.one 15 true (.nil)))))))) (.one 8 false (.one 10 false (.one 11 true (.one 12 true (.one 13 true (.one 14 true (.one 15 true (.nil)))))))))) (.one 6 false (.one 7 true (.one 8 false (.one 10 false (.one 11 true (.one 12 true (.one 13 true (.one 14 true (.one 15 true (.nil))))))))))) (.one 5 false (.one 6 false (.one 7 true (.one 8 false (.one 10 false (.one 11 true (.one 12 true (.one 13 true (.one 14 true (.one 15 true (.nil))))))))))))) (.one 3 false (.one 4 true (.one 5 false (.one 6 false (.one 7 true (.one 8 false (.one 10 false (.one 11 true (.one 12 true (.one 13 true (.one 14 true (.one 15 true (.nil)))))))))))))) (.one 2 false (.one 3 false (.one 4 true (.one 5 false (.one 6 false (.one 7 true (.one 8 false (.one 10 false (.one 11 true (.one 12 true (.one 13 true (.one 14 true (.one 15 true (.nil))))))))))))))))) (by kernel_rfl) (by kernel_rfl) (fun _ _ _ _ _ h => h) (by kernel_rfl) (by rfl) ?_
  simp only [fillT, List.getD_cons_zero, List.getD_cons_succ]
  have Y0 : Ext w8 w8.drew := (ext_refl w8).draw
  generalize w8.drew = y0 at Y0 ⊢
  repeat (refine wpTO_val (by rfl) ?_; intro K hK; go_big_quiet_op; go_big_quiet_on)
  refine wpTO_two ?_ ?_
  · refine wpTO_do (by rfl) ?_
    intro K hK
    go_simp
    refine Calls.mono (cNum_any 1 _) ?_
    rintro e y1 ⟨rfl, hx⟩
    have Y1 := Ext.then Y0 hx
    refine hK _ _ Y1 ?_
    clear K hK hx
    refine wpTO_two ?_ ?_
    · refine wpTO_do (by rfl) ?_
      intro K hK
      go_simp
      refine Calls.mono (cNum_any 5 _) ?_
      rintro e y2 ⟨rfl, hx⟩
      have Y2 := Ext.then Y1 hx
      refine hK _ _ Y2 ?_
      clear K hK hx
      repeat (refine wpTO_val (by rfl) ?_; intro K hK; go_big_quiet_op; go_big_quiet_on)
      refine wpTO_two ?_ ?_
      · refine wpTO_do (by rfl) ?_
        intro K hK
        go_simp
        refine Calls.mono (cText_any ⟨#[97]⟩ _) ?_
        rintro e y3 ⟨rfl, hx⟩
        have Y3 := Ext.then Y2 hx
        refine hK _ _ Y3 ?_
        clear K hK hx
        refine wpTO_two ?_ ?_
        · refine wpTO_do (by rfl) ?_
          intro K hK
          go_simp
          refine Calls.mono (cText_any ⟨#[97]⟩ _) ?_
          rintro e y4 ⟨rfl, hx⟩
          have Y4 := Ext.then Y3 hx
          refine hK _ _ Y4 ?_
          clear K hK hx
          repeat (refine wpTO_val (by rfl) ?_; intro K hK; go_big_quiet_op; go_big_quiet_on)
          refine wpTO_two ?_ ?_
          · refine wpTO_do (by rfl) ?_
            intro K hK
            go_simp
            have HS := rd_lit (w := y4) (g := (y4 : World).heap.size) (C := #[.int .i64 2, .int .i64 0, .int .i64 1, .int .u64 1, .string .empty, .int .i64 1, .int .u64 5, .string .empty, .int .i64 2, .int .i64 1, .int .i64 2, .int .u64 0, .string ⟨#[97]⟩, .int .i64 2, .int .u64 0, .string ⟨#[97]⟩]) (e := 45) (fz := (0, 0)) (cs := sts Cnd.sA) rfl rfl
            have Y5 := Ext.new Y4 (.cells #[.int .i64 2, .int .i64 0, .int .i64 1, .int .u64 1, .string .empty, .int .i64 1, .int .u64 5, .string .empty, .int .i64 2, .int .i64 1, .int .i64 2, .int .u64 0, .string ⟨#[97]⟩, .int .i64 2, .int .u64 0, .string ⟨#[97]⟩] 45)
            refine hK _ _ Y5 ?_
            clear K hK
            refine wpTO_do (by rfl) ?_
            intro K hK
            go_simp
            have HF := rd_lit (w := (y4.alloc (.cells #[.int .i64 2, .int .i64 0, .int .i64 1, .int .u64 1, .string .empty, .int .i64 1, .int .u64 5, .string .empty, .int .i64 2, .int .i64 1, .int .i64 2, .int .u64 0, .string ⟨#[97]⟩, .int .i64 2, .int .u64 0, .string ⟨#[97]⟩] 45))) (g := ((y4.alloc (.cells #[.int .i64 2, .int .i64 0, .int .i64 1, .int .u64 1, .string .empty, .int .i64 1, .int .u64 5, .string .empty, .int .i64 2, .int .i64 1, .int .i64 2, .int .u64 0, .string ⟨#[97]⟩, .int .i64 2, .int .u64 0, .string ⟨#[97]⟩] 45)) : World).heap.size) (C := #[.int .u64 0, .int .u64 0, .int .u64 0, .int .u64 0, .int .u64 0, .int .u64 0, .int .u64 0, .int .u64 0]) (e := 48) (fz := (0, 0)) (cs := frs Cnd.fA) rfl rfl
            replace HS := Rd.keep HS (Ext.new (ext_refl (y4.alloc (.cells #[.int .i64 2, .int .i64 0, .int .i64 1, .int .u64 1, .string .empty, .int .i64 1, .int .u64 5, .string .empty, .int .i64 2, .int .i64 1, .int .i64 2, .int .u64 0, .string ⟨#[97]⟩, .int .i64 2, .int .u64 0, .string ⟨#[97]⟩] 45))) (.cells #[.int .u64 0, .int .u64 0, .int .u64 0, .int .u64 0, .int .u64 0, .int .u64 0, .int .u64 0, .int .u64 0] 48))
            have Y6 := Ext.new Y5 (.cells #[.int .u64 0, .int .u64 0, .int .u64 0, .int .u64 0, .int .u64 0, .int .u64 0, .int .u64 0, .int .u64 0] 48)
            refine hK _ _ Y6 ?_
            clear K hK
            refine wpTO_do (by rfl) ?_
            intro K hK
            go_simp
            refine Calls.mono (HPR.out _ _ _ Y6 (by first | exact HS | simpa using HS) (by first | exact HF | simpa using HF)) ?_
            rintro e y7 ⟨rfl, hx⟩
            have Y7 := Ext.then Y6 hx
            replace HS := Rd.keep HS hx
            replace HF := Rd.keep HF hx
            refine hK _ _ Y7 ?_
            clear K hK hx
            repeat (refine wpTO_val (by rfl) ?_; intro K hK; go_big_quiet_op; go_big_quiet_on)
            refine wpTO_nil ?_
            replace Xp := hid (Xp.out.then Y7)
            replace RK := hid (RK.out.keep Y7)
            replace RP := hid (RP.out.keep Y7)
            clear HPR HS HF
            go_wp2
            have HS1 : ∀ w', (Instr.sliceAt 23 (.slice (some ⟨w.heap.size, 0, none⟩) 2 2) none (some (.int .i64 1)) none).run Try.prog w' = .ok (.slice (some ⟨w.heap.size, 0, none⟩) 1 2) w' := fun w' => sl_to (P := Try.prog) (m := 1) Try.underlying23 (by kernel_rfl) (some ⟨w.heap.size, 0, none⟩) 2 2 .i64 1 (by decide) w'
            have HAS : Hid (∀ (A : Option Addr) (wx : World), Ext y7 wx → Rd wx A (cls Cnd.rC) → Calls Try.prog 14 #[.slice (some ⟨w3.heap.size, 0, none⟩) 4 4, .slice (some ⟨w.heap.size, 0, none⟩) 1 2, .slice A 1 1] wx fun e w' => e = .returned (.tuple #[.int .i64 0, .int .i64 3]) ∧ Ext wx w') := hid (fun A wx hx hA => by
              have CT := ask_any [1] Cnd.pA Cnd.rC _ _ _ 4 4 1 2 1 1 wx rfl (RP.out.keep hx) (by decide) rfl ((show Rd y7 _ (i64s [1] ++ i64s [2]) from RK.out).pre.keep hx) (by decide) rfl hA (by decide) (by decide)
              rw [Cnd.ask_c] at CT
              exact CT)
            refine wp_region_tree (.one 0 true (.one 1 true (.one 2 true (.one 3 false (.one 4 false (.one 5 false (.one 6 false (.one 7 true (.one 8 true (.one 9 true (.one 10 true (.one 11 true (.nil))))))))))))) (by kernel_rfl) (by kernel_rfl) (fun _ _ _ _ _ h => h) (by kernel_rfl) (by rfl) ?_
            simp only [fillT, List.getD_cons_zero, List.getD_cons_succ]
            have Y0 : Ext y7 y7.drew := (ext_refl y7).draw
            generalize y7.drew = y0 at Y0 ⊢
            repeat (refine wpTO_val (by rfl) ?_; intro K hK; go_big_quiet_op; go_big_quiet_on)
            refine wpTO_do (by rfl) ?_
            intro K hK
            go_simp
            refine Calls.mono (cNum_any 6 _) ?_
            rintro e y8 ⟨rfl, hx⟩
            have Y8 := Ext.then Y0 hx
            refine hK _ _ Y8 ?_
            clear K hK hx
            refine wpTO_do (by rfl) ?_
            intro K hK
            go_simp
            have HR := rd_lit (w := y8) (g := (y8 : World).heap.size) (C := #[.int .i64 1, .int .u64 6, .string .empty]) (e := 37) (fz := (0, 0)) (cs := cls Cnd.rC) rfl rfl
            have Y9 := Ext.new Y8 (.cells #[.int .i64 1, .int .u64 6, .string .empty] 37)
            refine hK _ _ Y9 ?_
            clear K hK
            refine wpTO_do (by rfl) ?_
            intro K hK
            go_simp
            refine Calls.mono (cells_any _ 1 1 _) ?_
            rintro e _ ⟨rfl, rfl⟩
            refine hK _ _ Y9 ?_
            clear K hK
            refine wpTO_do (by rfl) ?_
            intro K hK
            go_simp
            refine Calls.mono (HAS.out _ _ Y9 HR) ?_
            rintro e y11 ⟨rfl, hx⟩
            have Y11 := Ext.then Y9 hx
            replace HR := Rd.keep HR hx
            refine hK _ _ Y11 ?_
            clear K hK hx
            repeat (refine wpTO_val (by rfl) ?_; intro K hK; go_big_quiet_op; go_big_quiet_on)
            refine wpTO_nil ?_
            have Xq := Xp.out.then Y11
            have RPq := RP.out.keep Y11
            have RKq := RK.out.keep Y11
            clear HAS HR
            have HC : Hid (Calls Try.prog 17 #[.slice (some ⟨w3.heap.size, 0, none⟩) 2 4, .slice (some ⟨w.heap.size, 0, none⟩) 2 2] y11 fun e w' => e = .returned (.int .i64 1) ∧ Ext y11 w') := hid (by
              have CT := pCheck_any [1, 2] (Cnd.pA.take 2) _ _ 2 4 2 2 y11 rfl ((show Rd y11 _ (cns (Cnd.pA.take 2) ++ cns (Cnd.pA.drop 2)) from RPq).pre) (by decide) rfl RKq (by decide)
              rw [Cnd.chk_a] at CT
              exact CT)
            have HS2 : ∀ w', (Instr.sliceAt 22 (.slice (some ⟨w3.heap.size, 0, none⟩) 4 4) none (some (.int .i64 2)) none).run Try.prog w' = .ok (.slice (some ⟨w3.heap.size, 0, none⟩) 2 4) w' := fun w' => sl_to (P := Try.prog) Try.underlying22 infoCond (some ⟨w3.heap.size, 0, none⟩) 4 4 .i64 2 (by decide) w'
            go_wp2_with (go_at_call 17; go_loud (refine HC.out.mono ?_; rintro e wz ⟨rfl, xz⟩; have XZ := hid (Xq.then xz); clear xz))
            go_returns
            exact ⟨rfl, XZ.out⟩
          · refine wpTO_do (by rfl) ?_
            intro K hK
            go_simp
            have HF := rd_lit (w := y4) (g := (y4 : World).heap.size) (C := #[.int .u64 0, .int .u64 0, .int .u64 0, .int .u64 0, .int .u64 0, .int .u64 0, .int .u64 0, .int .u64 0]) (e := 48) (fz := (0, 0)) (cs := frs Cnd.fA) rfl rfl
            have Y8 := Ext.new Y4 (.cells #[.int .u64 0, .int .u64 0, .int .u64 0, .int .u64 0, .int .u64 0, .int .u64 0, .int .u64 0, .int .u64 0] 48)
            refine hK _ _ Y8 ?_
            clear K hK
            refine wpTO_do (by rfl) ?_
            intro K hK
            go_simp
            have HS := rd_lit (w := (y4.alloc (.cells #[.int .u64 0, .int .u64 0, .int .u64 0, .int .u64 0, .int .u64 0, .int .u64 0, .int .u64 0, .int .u64 0] 48))) (g := ((y4.alloc (.cells #[.int .u64 0, .int .u64 0, .int .u64 0, .int .u64 0, .int .u64 0, .int .u64 0, .int .u64 0, .int .u64 0] 48)) : World).heap.size) (C := #[.int .i64 2, .int .i64 0, .int .i64 1, .int .u64 1, .string .empty, .int .i64 1, .int .u64 5, .string .empty, .int .i64 2, .int .i64 1, .int .i64 2, .int .u64 0, .string ⟨#[97]⟩, .int .i64 2, .int .u64 0, .string ⟨#[97]⟩]) (e := 45) (fz := (0, 0)) (cs := sts Cnd.sA) rfl rfl
            replace HF := Rd.keep HF (Ext.new (ext_refl (y4.alloc (.cells #[.int .u64 0, .int .u64 0, .int .u64 0, .int .u64 0, .int .u64 0, .int .u64 0, .int .u64 0, .int .u64 0] 48))) (.cells #[.int .i64 2, .int .i64 0, .int .i64 1, .int .u64 1, .string .empty, .int .i64 1, .int .u64 5, .string .empty, .int .i64 2, .int .i64 1, .int .i64 2, .int .u64 0, .string ⟨#[97]⟩, .int .i64 2, .int .u64 0, .string ⟨#[97]⟩] 45))
            have Y9 := Ext.new Y8 (.cells #[.int .i64 2, .int .i64 0, .int .i64 1, .int .u64 1, .string .empty, .int .i64 1, .int .u64 5, .string .empty, .int .i64 2, .int .i64 1, .int .i64 2, .int .u64 0, .string ⟨#[97]⟩, .int .i64 2, .int .u64 0, .string ⟨#[97]⟩] 45)
            refine hK _ _ Y9 ?_
            clear K hK
            refine wpTO_do (by rfl) ?_
            intro K hK
            go_simp
            refine Calls.mono (HPR.out _ _ _ Y9 (by first | exact HS | simpa using HS) (by first | exact HF | simpa using HF)) ?_
            rintro e y10 ⟨rfl, hx⟩
            have Y10 := Ext.then Y9 hx
            replace HF := Rd.keep HF hx
            replace HS := Rd.keep HS hx
            refine hK _ _ Y10 ?_
            clear K hK hx
            repeat (refine wpTO_val (by rfl) ?_; intro K hK; go_big_quiet_op; go_big_quiet_on)
            refine wpTO_nil ?_
            replace Xp := hid (Xp.out.then Y10)
            replace RK := hid (RK.out.keep Y10)
            replace RP := hid (RP.out.keep Y10)
            clear HPR HS HF
            go_wp2
            have HS1 : ∀ w', (Instr.sliceAt 23 (.slice (some ⟨w.heap.size, 0, none⟩) 2 2) none (some (.int .i64 1)) none).run Try.prog w' = .ok (.slice (some ⟨w.heap.size, 0, none⟩) 1 2) w' := fun w' => sl_to (P := Try.prog) (m := 1) Try.underlying23 (by kernel_rfl) (some ⟨w.heap.size, 0, none⟩) 2 2 .i64 1 (by decide) w'
            have HAS : Hid (∀ (A : Option Addr) (wx : World), Ext y10 wx → Rd wx A (cls Cnd.rC) → Calls Try.prog 14 #[.slice (some ⟨w3.heap.size, 0, none⟩) 4 4, .slice (some ⟨w.heap.size, 0, none⟩) 1 2, .slice A 1 1] wx fun e w' => e = .returned (.tuple #[.int .i64 0, .int .i64 3]) ∧ Ext wx w') := hid (fun A wx hx hA => by
              have CT := ask_any [1] Cnd.pA Cnd.rC _ _ _ 4 4 1 2 1 1 wx rfl (RP.out.keep hx) (by decide) rfl ((show Rd y10 _ (i64s [1] ++ i64s [2]) from RK.out).pre.keep hx) (by decide) rfl hA (by decide) (by decide)
              rw [Cnd.ask_c] at CT
              exact CT)
            refine wp_region_tree (.one 0 true (.one 1 true (.one 2 true (.one 3 false (.one 4 false (.one 5 false (.one 6 false (.one 7 true (.one 8 true (.one 9 true (.one 10 true (.one 11 true (.nil))))))))))))) (by kernel_rfl) (by kernel_rfl) (fun _ _ _ _ _ h => h) (by kernel_rfl) (by rfl) ?_
            simp only [fillT, List.getD_cons_zero, List.getD_cons_succ]
            have Y0 : Ext y10 y10.drew := (ext_refl y10).draw
            generalize y10.drew = y0 at Y0 ⊢
            repeat (refine wpTO_val (by rfl) ?_; intro K hK; go_big_quiet_op; go_big_quiet_on)
            refine wpTO_do (by rfl) ?_
            intro K hK
            go_simp
            refine Calls.mono (cNum_any 6 _) ?_
            rintro e y11 ⟨rfl, hx⟩
            have Y11 := Ext.then Y0 hx
            refine hK _ _ Y11 ?_
            clear K hK hx
            refine wpTO_do (by rfl) ?_
            intro K hK
            go_simp
            have HR := rd_lit (w := y11) (g := (y11 : World).heap.size) (C := #[.int .i64 1, .int .u64 6, .string .empty]) (e := 37) (fz := (0, 0)) (cs := cls Cnd.rC) rfl rfl
            have Y12 := Ext.new Y11 (.cells #[.int .i64 1, .int .u64 6, .string .empty] 37)
            refine hK _ _ Y12 ?_
            clear K hK
            refine wpTO_do (by rfl) ?_
            intro K hK
            go_simp
            refine Calls.mono (cells_any _ 1 1 _) ?_
            rintro e _ ⟨rfl, rfl⟩
            refine hK _ _ Y12 ?_
            clear K hK
            refine wpTO_do (by rfl) ?_
            intro K hK
            go_simp
            refine Calls.mono (HAS.out _ _ Y12 HR) ?_
            rintro e y14 ⟨rfl, hx⟩
            have Y14 := Ext.then Y12 hx
            replace HR := Rd.keep HR hx
            refine hK _ _ Y14 ?_
            clear K hK hx
            repeat (refine wpTO_val (by rfl) ?_; intro K hK; go_big_quiet_op; go_big_quiet_on)
            refine wpTO_nil ?_
            have Xq := Xp.out.then Y14
            have RPq := RP.out.keep Y14
            have RKq := RK.out.keep Y14
            clear HAS HR
            have HC : Hid (Calls Try.prog 17 #[.slice (some ⟨w3.heap.size, 0, none⟩) 2 4, .slice (some ⟨w.heap.size, 0, none⟩) 2 2] y14 fun e w' => e = .returned (.int .i64 1) ∧ Ext y14 w') := hid (by
              have CT := pCheck_any [1, 2] (Cnd.pA.take 2) _ _ 2 4 2 2 y14 rfl ((show Rd y14 _ (cns (Cnd.pA.take 2) ++ cns (Cnd.pA.drop 2)) from RPq).pre) (by decide) rfl RKq (by decide)
              rw [Cnd.chk_a] at CT
              exact CT)
            have HS2 : ∀ w', (Instr.sliceAt 22 (.slice (some ⟨w3.heap.size, 0, none⟩) 4 4) none (some (.int .i64 2)) none).run Try.prog w' = .ok (.slice (some ⟨w3.heap.size, 0, none⟩) 2 4) w' := fun w' => sl_to (P := Try.prog) Try.underlying22 infoCond (some ⟨w3.heap.size, 0, none⟩) 4 4 .i64 2 (by decide) w'
            go_wp2_with (go_at_call 17; go_loud (refine HC.out.mono ?_; rintro e wz ⟨rfl, xz⟩; have XZ := hid (Xq.then xz); clear xz))
            go_returns
            exact ⟨rfl, XZ.out⟩
        · refine wpTO_do (by rfl) ?_
          intro K hK
          go_simp
          have HF := rd_lit (w := y3) (g := (y3 : World).heap.size) (C := #[.int .u64 0, .int .u64 0, .int .u64 0, .int .u64 0, .int .u64 0, .int .u64 0, .int .u64 0, .int .u64 0]) (e := 48) (fz := (0, 0)) (cs := frs Cnd.fA) rfl rfl
          have Y11 := Ext.new Y3 (.cells #[.int .u64 0, .int .u64 0, .int .u64 0, .int .u64 0, .int .u64 0, .int .u64 0, .int .u64 0, .int .u64 0] 48)
          refine hK _ _ Y11 ?_
          clear K hK
          refine wpTO_do (by rfl) ?_
          intro K hK
          go_simp
          refine Calls.mono (cText_any ⟨#[97]⟩ _) ?_
          rintro e y12 ⟨rfl, hx⟩
          have Y12 := Ext.then Y11 hx
          replace HF := Rd.keep HF hx
          refine hK _ _ Y12 ?_
          clear K hK hx
          repeat (refine wpTO_val (by rfl) ?_; intro K hK; go_big_quiet_op; go_big_quiet_on)
          refine wpTO_do (by rfl) ?_
          intro K hK
          go_simp
          have HS := rd_lit (w := y12) (g := (y12 : World).heap.size) (C := #[.int .i64 2, .int .i64 0, .int .i64 1, .int .u64 1, .string .empty, .int .i64 1, .int .u64 5, .string .empty, .int .i64 2, .int .i64 1, .int .i64 2, .int .u64 0, .string ⟨#[97]⟩, .int .i64 2, .int .u64 0, .string ⟨#[97]⟩]) (e := 45) (fz := (0, 0)) (cs := sts Cnd.sA) rfl rfl
          replace HF := Rd.keep HF (Ext.new (ext_refl y12) (.cells #[.int .i64 2, .int .i64 0, .int .i64 1, .int .u64 1, .string .empty, .int .i64 1, .int .u64 5, .string .empty, .int .i64 2, .int .i64 1, .int .i64 2, .int .u64 0, .string ⟨#[97]⟩, .int .i64 2, .int .u64 0, .string ⟨#[97]⟩] 45))
          have Y13 := Ext.new Y12 (.cells #[.int .i64 2, .int .i64 0, .int .i64 1, .int .u64 1, .string .empty, .int .i64 1, .int .u64 5, .string .empty, .int .i64 2, .int .i64 1, .int .i64 2, .int .u64 0, .string ⟨#[97]⟩, .int .i64 2, .int .u64 0, .string ⟨#[97]⟩] 45)
          refine hK _ _ Y13 ?_
          clear K hK
          refine wpTO_do (by rfl) ?_
          intro K hK
          go_simp
          refine Calls.mono (HPR.out _ _ _ Y13 (by first | exact HS | simpa using HS) (by first | exact HF | simpa using HF)) ?_
          rintro e y14 ⟨rfl, hx⟩
          have Y14 := Ext.then Y13 hx
          replace HF := Rd.keep HF hx
          replace HS := Rd.keep HS hx
          refine hK _ _ Y14 ?_
          clear K hK hx
          repeat (refine wpTO_val (by rfl) ?_; intro K hK; go_big_quiet_op; go_big_quiet_on)
          refine wpTO_nil ?_
          replace Xp := hid (Xp.out.then Y14)
          replace RK := hid (RK.out.keep Y14)
          replace RP := hid (RP.out.keep Y14)
          clear HPR HS HF
          go_wp2
          have HS1 : ∀ w', (Instr.sliceAt 23 (.slice (some ⟨w.heap.size, 0, none⟩) 2 2) none (some (.int .i64 1)) none).run Try.prog w' = .ok (.slice (some ⟨w.heap.size, 0, none⟩) 1 2) w' := fun w' => sl_to (P := Try.prog) (m := 1) Try.underlying23 (by kernel_rfl) (some ⟨w.heap.size, 0, none⟩) 2 2 .i64 1 (by decide) w'
          have HAS : Hid (∀ (A : Option Addr) (wx : World), Ext y14 wx → Rd wx A (cls Cnd.rC) → Calls Try.prog 14 #[.slice (some ⟨w3.heap.size, 0, none⟩) 4 4, .slice (some ⟨w.heap.size, 0, none⟩) 1 2, .slice A 1 1] wx fun e w' => e = .returned (.tuple #[.int .i64 0, .int .i64 3]) ∧ Ext wx w') := hid (fun A wx hx hA => by
            have CT := ask_any [1] Cnd.pA Cnd.rC _ _ _ 4 4 1 2 1 1 wx rfl (RP.out.keep hx) (by decide) rfl ((show Rd y14 _ (i64s [1] ++ i64s [2]) from RK.out).pre.keep hx) (by decide) rfl hA (by decide) (by decide)
            rw [Cnd.ask_c] at CT
            exact CT)
          refine wp_region_tree (.one 0 true (.one 1 true (.one 2 true (.one 3 false (.one 4 false (.one 5 false (.one 6 false (.one 7 true (.one 8 true (.one 9 true (.one 10 true (.one 11 true (.nil))))))))))))) (by kernel_rfl) (by kernel_rfl) (fun _ _ _ _ _ h => h) (by kernel_rfl) (by rfl) ?_
          simp only [fillT, List.getD_cons_zero, List.getD_cons_succ]
          have Y0 : Ext y14 y14.drew := (ext_refl y14).draw
          generalize y14.drew = y0 at Y0 ⊢
          repeat (refine wpTO_val (by rfl) ?_; intro K hK; go_big_quiet_op; go_big_quiet_on)
          refine wpTO_do (by rfl) ?_
          intro K hK
          go_simp
          refine Calls.mono (cNum_any 6 _) ?_
          rintro e y15 ⟨rfl, hx⟩
          have Y15 := Ext.then Y0 hx
          refine hK _ _ Y15 ?_
          clear K hK hx
          refine wpTO_do (by rfl) ?_
          intro K hK
          go_simp
          have HR := rd_lit (w := y15) (g := (y15 : World).heap.size) (C := #[.int .i64 1, .int .u64 6, .string .empty]) (e := 37) (fz := (0, 0)) (cs := cls Cnd.rC) rfl rfl
          have Y16 := Ext.new Y15 (.cells #[.int .i64 1, .int .u64 6, .string .empty] 37)
          refine hK _ _ Y16 ?_
          clear K hK
          refine wpTO_do (by rfl) ?_
          intro K hK
          go_simp
          refine Calls.mono (cells_any _ 1 1 _) ?_
          rintro e _ ⟨rfl, rfl⟩
          refine hK _ _ Y16 ?_
          clear K hK
          refine wpTO_do (by rfl) ?_
          intro K hK
          go_simp
          refine Calls.mono (HAS.out _ _ Y16 HR) ?_
          rintro e y18 ⟨rfl, hx⟩
          have Y18 := Ext.then Y16 hx
          replace HR := Rd.keep HR hx
          refine hK _ _ Y18 ?_
          clear K hK hx
          repeat (refine wpTO_val (by rfl) ?_; intro K hK; go_big_quiet_op; go_big_quiet_on)
          refine wpTO_nil ?_
          have Xq := Xp.out.then Y18
          have RPq := RP.out.keep Y18
          have RKq := RK.out.keep Y18
          clear HAS HR
          have HC : Hid (Calls Try.prog 17 #[.slice (some ⟨w3.heap.size, 0, none⟩) 2 4, .slice (some ⟨w.heap.size, 0, none⟩) 2 2] y18 fun e w' => e = .returned (.int .i64 1) ∧ Ext y18 w') := hid (by
            have CT := pCheck_any [1, 2] (Cnd.pA.take 2) _ _ 2 4 2 2 y18 rfl ((show Rd y18 _ (cns (Cnd.pA.take 2) ++ cns (Cnd.pA.drop 2)) from RPq).pre) (by decide) rfl RKq (by decide)
            rw [Cnd.chk_a] at CT
            exact CT)
          have HS2 : ∀ w', (Instr.sliceAt 22 (.slice (some ⟨w3.heap.size, 0, none⟩) 4 4) none (some (.int .i64 2)) none).run Try.prog w' = .ok (.slice (some ⟨w3.heap.size, 0, none⟩) 2 4) w' := fun w' => sl_to (P := Try.prog) Try.underlying22 infoCond (some ⟨w3.heap.size, 0, none⟩) 4 4 .i64 2 (by decide) w'
          go_wp2_with (go_at_call 17; go_loud (refine HC.out.mono ?_; rintro e wz ⟨rfl, xz⟩; have XZ := hid (Xq.then xz); clear xz))
          go_returns
          exact ⟨rfl, XZ.out⟩
      · refine wpTO_do (by rfl) ?_
        intro K hK
        go_simp
        have HF := rd_lit (w := y2) (g := (y2 : World).heap.size) (C := #[.int .u64 0, .int .u64 0, .int .u64 0, .int .u64 0, .int .u64 0, .int .u64 0, .int .u64 0, .int .u64 0]) (e := 48) (fz := (0, 0)) (cs := frs Cnd.fA) rfl rfl
        have Y15 := Ext.new Y2 (.cells #[.int .u64 0, .int .u64 0, .int .u64 0, .int .u64 0, .int .u64 0, .int .u64 0, .int .u64 0, .int .u64 0] 48)
        refine hK _ _ Y15 ?_
        clear K hK
        refine wpTO_do (by rfl) ?_
        intro K hK
        go_simp
        refine Calls.mono (cText_any ⟨#[97]⟩ _) ?_
        rintro e y16 ⟨rfl, hx⟩
        have Y16 := Ext.then Y15 hx
        replace HF := Rd.keep HF hx
        refine hK _ _ Y16 ?_
        clear K hK hx
        refine wpTO_do (by rfl) ?_
        intro K hK
        go_simp
        refine Calls.mono (cText_any ⟨#[97]⟩ _) ?_
        rintro e y17 ⟨rfl, hx⟩
        have Y17 := Ext.then Y16 hx
        replace HF := Rd.keep HF hx
        refine hK _ _ Y17 ?_
        clear K hK hx
        repeat (refine wpTO_val (by rfl) ?_; intro K hK; go_big_quiet_op; go_big_quiet_on)
        refine wpTO_do (by rfl) ?_
        intro K hK
        go_simp
        have HS := rd_lit (w := y17) (g := (y17 : World).heap.size) (C := #[.int .i64 2, .int .i64 0, .int .i64 1, .int .u64 1, .string .empty, .int .i64 1, .int .u64 5, .string .empty, .int .i64 2, .int .i64 1, .int .i64 2, .int .u64 0, .string ⟨#[97]⟩, .int .i64 2, .int .u64 0, .string ⟨#[97]⟩]) (e := 45) (fz := (0, 0)) (cs := sts Cnd.sA) rfl rfl
        replace HF := Rd.keep HF (Ext.new (ext_refl y17) (.cells #[.int .i64 2, .int .i64 0, .int .i64 1, .int .u64 1, .string .empty, .int .i64 1, .int .u64 5, .string .empty, .int .i64 2, .int .i64 1, .int .i64 2, .int .u64 0, .string ⟨#[97]⟩, .int .i64 2, .int .u64 0, .string ⟨#[97]⟩] 45))
        have Y18 := Ext.new Y17 (.cells #[.int .i64 2, .int .i64 0, .int .i64 1, .int .u64 1, .string .empty, .int .i64 1, .int .u64 5, .string .empty, .int .i64 2, .int .i64 1, .int .i64 2, .int .u64 0, .string ⟨#[97]⟩, .int .i64 2, .int .u64 0, .string ⟨#[97]⟩] 45)
        refine hK _ _ Y18 ?_
        clear K hK
        refine wpTO_do (by rfl) ?_
        intro K hK
        go_simp
        refine Calls.mono (HPR.out _ _ _ Y18 (by first | exact HS | simpa using HS) (by first | exact HF | simpa using HF)) ?_
        rintro e y19 ⟨rfl, hx⟩
        have Y19 := Ext.then Y18 hx
        replace HF := Rd.keep HF hx
        replace HS := Rd.keep HS hx
        refine hK _ _ Y19 ?_
        clear K hK hx
        repeat (refine wpTO_val (by rfl) ?_; intro K hK; go_big_quiet_op; go_big_quiet_on)
        refine wpTO_nil ?_
        replace Xp := hid (Xp.out.then Y19)
        replace RK := hid (RK.out.keep Y19)
        replace RP := hid (RP.out.keep Y19)
        clear HPR HS HF
        go_wp2
        have HS1 : ∀ w', (Instr.sliceAt 23 (.slice (some ⟨w.heap.size, 0, none⟩) 2 2) none (some (.int .i64 1)) none).run Try.prog w' = .ok (.slice (some ⟨w.heap.size, 0, none⟩) 1 2) w' := fun w' => sl_to (P := Try.prog) (m := 1) Try.underlying23 (by kernel_rfl) (some ⟨w.heap.size, 0, none⟩) 2 2 .i64 1 (by decide) w'
        have HAS : Hid (∀ (A : Option Addr) (wx : World), Ext y19 wx → Rd wx A (cls Cnd.rC) → Calls Try.prog 14 #[.slice (some ⟨w3.heap.size, 0, none⟩) 4 4, .slice (some ⟨w.heap.size, 0, none⟩) 1 2, .slice A 1 1] wx fun e w' => e = .returned (.tuple #[.int .i64 0, .int .i64 3]) ∧ Ext wx w') := hid (fun A wx hx hA => by
          have CT := ask_any [1] Cnd.pA Cnd.rC _ _ _ 4 4 1 2 1 1 wx rfl (RP.out.keep hx) (by decide) rfl ((show Rd y19 _ (i64s [1] ++ i64s [2]) from RK.out).pre.keep hx) (by decide) rfl hA (by decide) (by decide)
          rw [Cnd.ask_c] at CT
          exact CT)
        refine wp_region_tree (.one 0 true (.one 1 true (.one 2 true (.one 3 false (.one 4 false (.one 5 false (.one 6 false (.one 7 true (.one 8 true (.one 9 true (.one 10 true (.one 11 true (.nil))))))))))))) (by kernel_rfl) (by kernel_rfl) (fun _ _ _ _ _ h => h) (by kernel_rfl) (by rfl) ?_
        simp only [fillT, List.getD_cons_zero, List.getD_cons_succ]
        have Y0 : Ext y19 y19.drew := (ext_refl y19).draw
        generalize y19.drew = y0 at Y0 ⊢
        repeat (refine wpTO_val (by rfl) ?_; intro K hK; go_big_quiet_op; go_big_quiet_on)
        refine wpTO_do (by rfl) ?_
        intro K hK
        go_simp
        refine Calls.mono (cNum_any 6 _) ?_
        rintro e y20 ⟨rfl, hx⟩
        have Y20 := Ext.then Y0 hx
        refine hK _ _ Y20 ?_
        clear K hK hx
        refine wpTO_do (by rfl) ?_
        intro K hK
        go_simp
        have HR := rd_lit (w := y20) (g := (y20 : World).heap.size) (C := #[.int .i64 1, .int .u64 6, .string .empty]) (e := 37) (fz := (0, 0)) (cs := cls Cnd.rC) rfl rfl
        have Y21 := Ext.new Y20 (.cells #[.int .i64 1, .int .u64 6, .string .empty] 37)
        refine hK _ _ Y21 ?_
        clear K hK
        refine wpTO_do (by rfl) ?_
        intro K hK
        go_simp
        refine Calls.mono (cells_any _ 1 1 _) ?_
        rintro e _ ⟨rfl, rfl⟩
        refine hK _ _ Y21 ?_
        clear K hK
        refine wpTO_do (by rfl) ?_
        intro K hK
        go_simp
        refine Calls.mono (HAS.out _ _ Y21 HR) ?_
        rintro e y23 ⟨rfl, hx⟩
        have Y23 := Ext.then Y21 hx
        replace HR := Rd.keep HR hx
        refine hK _ _ Y23 ?_
        clear K hK hx
        repeat (refine wpTO_val (by rfl) ?_; intro K hK; go_big_quiet_op; go_big_quiet_on)
        refine wpTO_nil ?_
        have Xq := Xp.out.then Y23
        have RPq := RP.out.keep Y23
        have RKq := RK.out.keep Y23
        clear HAS HR
        have HC : Hid (Calls Try.prog 17 #[.slice (some ⟨w3.heap.size, 0, none⟩) 2 4, .slice (some ⟨w.heap.size, 0, none⟩) 2 2] y23 fun e w' => e = .returned (.int .i64 1) ∧ Ext y23 w') := hid (by
          have CT := pCheck_any [1, 2] (Cnd.pA.take 2) _ _ 2 4 2 2 y23 rfl ((show Rd y23 _ (cns (Cnd.pA.take 2) ++ cns (Cnd.pA.drop 2)) from RPq).pre) (by decide) rfl RKq (by decide)
          rw [Cnd.chk_a] at CT
          exact CT)
        have HS2 : ∀ w', (Instr.sliceAt 22 (.slice (some ⟨w3.heap.size, 0, none⟩) 4 4) none (some (.int .i64 2)) none).run Try.prog w' = .ok (.slice (some ⟨w3.heap.size, 0, none⟩) 2 4) w' := fun w' => sl_to (P := Try.prog) Try.underlying22 infoCond (some ⟨w3.heap.size, 0, none⟩) 4 4 .i64 2 (by decide) w'
        go_wp2_with (go_at_call 17; go_loud (refine HC.out.mono ?_; rintro e wz ⟨rfl, xz⟩; have XZ := hid (Xq.then xz); clear xz))
        go_returns
        exact ⟨rfl, XZ.out⟩
    · refine wpTO_do (by rfl) ?_
      intro K hK
      go_simp
      have HF := rd_lit (w := y1) (g := (y1 : World).heap.size) (C := #[.int .u64 0, .int .u64 0, .int .u64 0, .int .u64 0, .int .u64 0, .int .u64 0, .int .u64 0, .int .u64 0]) (e := 48) (fz := (0, 0)) (cs := frs Cnd.fA) rfl rfl
      have Y20 := Ext.new Y1 (.cells #[.int .u64 0, .int .u64 0, .int .u64 0, .int .u64 0, .int .u64 0, .int .u64 0, .int .u64 0, .int .u64 0] 48)
      refine hK _ _ Y20 ?_
      clear K hK
      refine wpTO_do (by rfl) ?_
      intro K hK
      go_simp
      refine Calls.mono (cNum_any 5 _) ?_
      rintro e y21 ⟨rfl, hx⟩
      have Y21 := Ext.then Y20 hx
      replace HF := Rd.keep HF hx
      refine hK _ _ Y21 ?_
      clear K hK hx
      repeat (refine wpTO_val (by rfl) ?_; intro K hK; go_big_quiet_op; go_big_quiet_on)
      refine wpTO_do (by rfl) ?_
      intro K hK
      go_simp
      refine Calls.mono (cText_any ⟨#[97]⟩ _) ?_
      rintro e y22 ⟨rfl, hx⟩
      have Y22 := Ext.then Y21 hx
      replace HF := Rd.keep HF hx
      refine hK _ _ Y22 ?_
      clear K hK hx
      refine wpTO_do (by rfl) ?_
      intro K hK
      go_simp
      refine Calls.mono (cText_any ⟨#[97]⟩ _) ?_
      rintro e y23 ⟨rfl, hx⟩
      have Y23 := Ext.then Y22 hx
      replace HF := Rd.keep HF hx
      refine hK _ _ Y23 ?_
      clear K hK hx
      repeat (refine wpTO_val (by rfl) ?_; intro K hK; go_big_quiet_op; go_big_quiet_on)
      refine wpTO_do (by rfl) ?_
      intro K hK
      go_simp
      have HS := rd_lit (w := y23) (g := (y23 : World).heap.size) (C := #[.int .i64 2, .int .i64 0, .int .i64 1, .int .u64 1, .string .empty, .int .i64 1, .int .u64 5, .string .empty, .int .i64 2, .int .i64 1, .int .i64 2, .int .u64 0, .string ⟨#[97]⟩, .int .i64 2, .int .u64 0, .string ⟨#[97]⟩]) (e := 45) (fz := (0, 0)) (cs := sts Cnd.sA) rfl rfl
      replace HF := Rd.keep HF (Ext.new (ext_refl y23) (.cells #[.int .i64 2, .int .i64 0, .int .i64 1, .int .u64 1, .string .empty, .int .i64 1, .int .u64 5, .string .empty, .int .i64 2, .int .i64 1, .int .i64 2, .int .u64 0, .string ⟨#[97]⟩, .int .i64 2, .int .u64 0, .string ⟨#[97]⟩] 45))
      have Y24 := Ext.new Y23 (.cells #[.int .i64 2, .int .i64 0, .int .i64 1, .int .u64 1, .string .empty, .int .i64 1, .int .u64 5, .string .empty, .int .i64 2, .int .i64 1, .int .i64 2, .int .u64 0, .string ⟨#[97]⟩, .int .i64 2, .int .u64 0, .string ⟨#[97]⟩] 45)
      refine hK _ _ Y24 ?_
      clear K hK
      refine wpTO_do (by rfl) ?_
      intro K hK
      go_simp
      refine Calls.mono (HPR.out _ _ _ Y24 (by first | exact HS | simpa using HS) (by first | exact HF | simpa using HF)) ?_
      rintro e y25 ⟨rfl, hx⟩
      have Y25 := Ext.then Y24 hx
      replace HF := Rd.keep HF hx
      replace HS := Rd.keep HS hx
      refine hK _ _ Y25 ?_
      clear K hK hx
      repeat (refine wpTO_val (by rfl) ?_; intro K hK; go_big_quiet_op; go_big_quiet_on)
      refine wpTO_nil ?_
      replace Xp := hid (Xp.out.then Y25)
      replace RK := hid (RK.out.keep Y25)
      replace RP := hid (RP.out.keep Y25)
      clear HPR HS HF
      go_wp2
      have HS1 : ∀ w', (Instr.sliceAt 23 (.slice (some ⟨w.heap.size, 0, none⟩) 2 2) none (some (.int .i64 1)) none).run Try.prog w' = .ok (.slice (some ⟨w.heap.size, 0, none⟩) 1 2) w' := fun w' => sl_to (P := Try.prog) (m := 1) Try.underlying23 (by kernel_rfl) (some ⟨w.heap.size, 0, none⟩) 2 2 .i64 1 (by decide) w'
      have HAS : Hid (∀ (A : Option Addr) (wx : World), Ext y25 wx → Rd wx A (cls Cnd.rC) → Calls Try.prog 14 #[.slice (some ⟨w3.heap.size, 0, none⟩) 4 4, .slice (some ⟨w.heap.size, 0, none⟩) 1 2, .slice A 1 1] wx fun e w' => e = .returned (.tuple #[.int .i64 0, .int .i64 3]) ∧ Ext wx w') := hid (fun A wx hx hA => by
        have CT := ask_any [1] Cnd.pA Cnd.rC _ _ _ 4 4 1 2 1 1 wx rfl (RP.out.keep hx) (by decide) rfl ((show Rd y25 _ (i64s [1] ++ i64s [2]) from RK.out).pre.keep hx) (by decide) rfl hA (by decide) (by decide)
        rw [Cnd.ask_c] at CT
        exact CT)
      refine wp_region_tree (.one 0 true (.one 1 true (.one 2 true (.one 3 false (.one 4 false (.one 5 false (.one 6 false (.one 7 true (.one 8 true (.one 9 true (.one 10 true (.one 11 true (.nil))))))))))))) (by kernel_rfl) (by kernel_rfl) (fun _ _ _ _ _ h => h) (by kernel_rfl) (by rfl) ?_
      simp only [fillT, List.getD_cons_zero, List.getD_cons_succ]
      have Y0 : Ext y25 y25.drew := (ext_refl y25).draw
      generalize y25.drew = y0 at Y0 ⊢
      repeat (refine wpTO_val (by rfl) ?_; intro K hK; go_big_quiet_op; go_big_quiet_on)
      refine wpTO_do (by rfl) ?_
      intro K hK
      go_simp
      refine Calls.mono (cNum_any 6 _) ?_
      rintro e y26 ⟨rfl, hx⟩
      have Y26 := Ext.then Y0 hx
      refine hK _ _ Y26 ?_
      clear K hK hx
      refine wpTO_do (by rfl) ?_
      intro K hK
      go_simp
      have HR := rd_lit (w := y26) (g := (y26 : World).heap.size) (C := #[.int .i64 1, .int .u64 6, .string .empty]) (e := 37) (fz := (0, 0)) (cs := cls Cnd.rC) rfl rfl
      have Y27 := Ext.new Y26 (.cells #[.int .i64 1, .int .u64 6, .string .empty] 37)
      refine hK _ _ Y27 ?_
      clear K hK
      refine wpTO_do (by rfl) ?_
      intro K hK
      go_simp
      refine Calls.mono (cells_any _ 1 1 _) ?_
      rintro e _ ⟨rfl, rfl⟩
      refine hK _ _ Y27 ?_
      clear K hK
      refine wpTO_do (by rfl) ?_
      intro K hK
      go_simp
      refine Calls.mono (HAS.out _ _ Y27 HR) ?_
      rintro e y29 ⟨rfl, hx⟩
      have Y29 := Ext.then Y27 hx
      replace HR := Rd.keep HR hx
      refine hK _ _ Y29 ?_
      clear K hK hx
      repeat (refine wpTO_val (by rfl) ?_; intro K hK; go_big_quiet_op; go_big_quiet_on)
      refine wpTO_nil ?_
      have Xq := Xp.out.then Y29
      have RPq := RP.out.keep Y29
      have RKq := RK.out.keep Y29
      clear HAS HR
      have HC : Hid (Calls Try.prog 17 #[.slice (some ⟨w3.heap.size, 0, none⟩) 2 4, .slice (some ⟨w.heap.size, 0, none⟩) 2 2] y29 fun e w' => e = .returned (.int .i64 1) ∧ Ext y29 w') := hid (by
        have CT := pCheck_any [1, 2] (Cnd.pA.take 2) _ _ 2 4 2 2 y29 rfl ((show Rd y29 _ (cns (Cnd.pA.take 2) ++ cns (Cnd.pA.drop 2)) from RPq).pre) (by decide) rfl RKq (by decide)
        rw [Cnd.chk_a] at CT
        exact CT)
      have HS2 : ∀ w', (Instr.sliceAt 22 (.slice (some ⟨w3.heap.size, 0, none⟩) 4 4) none (some (.int .i64 2)) none).run Try.prog w' = .ok (.slice (some ⟨w3.heap.size, 0, none⟩) 2 4) w' := fun w' => sl_to (P := Try.prog) Try.underlying22 infoCond (some ⟨w3.heap.size, 0, none⟩) 4 4 .i64 2 (by decide) w'
      go_wp2_with (go_at_call 17; go_loud (refine HC.out.mono ?_; rintro e wz ⟨rfl, xz⟩; have XZ := hid (Xq.then xz); clear xz))
      go_returns
      exact ⟨rfl, XZ.out⟩
  · refine wpTO_do (by rfl) ?_
    intro K hK
    go_simp
    have HF := rd_lit (w := y0) (g := (y0 : World).heap.size) (C := #[.int .u64 0, .int .u64 0, .int .u64 0, .int .u64 0, .int .u64 0, .int .u64 0, .int .u64 0, .int .u64 0]) (e := 48) (fz := (0, 0)) (cs := frs Cnd.fA) rfl rfl
    have Y26 := Ext.new Y0 (.cells #[.int .u64 0, .int .u64 0, .int .u64 0, .int .u64 0, .int .u64 0, .int .u64 0, .int .u64 0, .int .u64 0] 48)
    refine hK _ _ Y26 ?_
    clear K hK
    refine wpTO_do (by rfl) ?_
    intro K hK
    go_simp
    refine Calls.mono (cNum_any 1 _) ?_
    rintro e y27 ⟨rfl, hx⟩
    have Y27 := Ext.then Y26 hx
    replace HF := Rd.keep HF hx
    refine hK _ _ Y27 ?_
    clear K hK hx
    refine wpTO_do (by rfl) ?_
    intro K hK
    go_simp
    refine Calls.mono (cNum_any 5 _) ?_
    rintro e y28 ⟨rfl, hx⟩
    have Y28 := Ext.then Y27 hx
    replace HF := Rd.keep HF hx
    refine hK _ _ Y28 ?_
    clear K hK hx
    repeat (refine wpTO_val (by rfl) ?_; intro K hK; go_big_quiet_op; go_big_quiet_on)
    refine wpTO_do (by rfl) ?_
    intro K hK
    go_simp
    refine Calls.mono (cText_any ⟨#[97]⟩ _) ?_
    rintro e y29 ⟨rfl, hx⟩
    have Y29 := Ext.then Y28 hx
    replace HF := Rd.keep HF hx
    refine hK _ _ Y29 ?_
    clear K hK hx
    refine wpTO_do (by rfl) ?_
    intro K hK
    go_simp
    refine Calls.mono (cText_any ⟨#[97]⟩ _) ?_
    rintro e y30 ⟨rfl, hx⟩
    have Y30 := Ext.then Y29 hx
    replace HF := Rd.keep HF hx
    refine hK _ _ Y30 ?_
    clear K hK hx
    repeat (refine wpTO_val (by rfl) ?_; intro K hK; go_big_quiet_op; go_big_quiet_on)
    refine wpTO_do (by rfl) ?_
    intro K hK
    go_simp
    have HS := rd_lit (w := y30) (g := (y30 : World).heap.size) (C := #[.int .i64 2, .int .i64 0, .int .i64 1, .int .u64 1, .string .empty, .int .i64 1, .int .u64 5, .string .empty, .int .i64 2, .int .i64 1, .int .i64 2, .int .u64 0, .string ⟨#[97]⟩, .int .i64 2, .int .u64 0, .string ⟨#[97]⟩]) (e := 45) (fz := (0, 0)) (cs := sts Cnd.sA) rfl rfl
    replace HF := Rd.keep HF (Ext.new (ext_refl y30) (.cells #[.int .i64 2, .int .i64 0, .int .i64 1, .int .u64 1, .string .empty, .int .i64 1, .int .u64 5, .string .empty, .int .i64 2, .int .i64 1, .int .i64 2, .int .u64 0, .string ⟨#[97]⟩, .int .i64 2, .int .u64 0, .string ⟨#[97]⟩] 45))
    have Y31 := Ext.new Y30 (.cells #[.int .i64 2, .int .i64 0, .int .i64 1, .int .u64 1, .string .empty, .int .i64 1, .int .u64 5, .string .empty, .int .i64 2, .int .i64 1, .int .i64 2, .int .u64 0, .string ⟨#[97]⟩, .int .i64 2, .int .u64 0, .string ⟨#[97]⟩] 45)
    refine hK _ _ Y31 ?_
    clear K hK
    refine wpTO_do (by rfl) ?_
    intro K hK
    go_simp
    refine Calls.mono (HPR.out _ _ _ Y31 (by first | exact HS | simpa using HS) (by first | exact HF | simpa using HF)) ?_
    rintro e y32 ⟨rfl, hx⟩
    have Y32 := Ext.then Y31 hx
    replace HF := Rd.keep HF hx
    replace HS := Rd.keep HS hx
    refine hK _ _ Y32 ?_
    clear K hK hx
    repeat (refine wpTO_val (by rfl) ?_; intro K hK; go_big_quiet_op; go_big_quiet_on)
    refine wpTO_nil ?_
    replace Xp := hid (Xp.out.then Y32)
    replace RK := hid (RK.out.keep Y32)
    replace RP := hid (RP.out.keep Y32)
    clear HPR HS HF
    go_wp2
    have HS1 : ∀ w', (Instr.sliceAt 23 (.slice (some ⟨w.heap.size, 0, none⟩) 2 2) none (some (.int .i64 1)) none).run Try.prog w' = .ok (.slice (some ⟨w.heap.size, 0, none⟩) 1 2) w' := fun w' => sl_to (P := Try.prog) (m := 1) Try.underlying23 (by kernel_rfl) (some ⟨w.heap.size, 0, none⟩) 2 2 .i64 1 (by decide) w'
    have HAS : Hid (∀ (A : Option Addr) (wx : World), Ext y32 wx → Rd wx A (cls Cnd.rC) → Calls Try.prog 14 #[.slice (some ⟨w3.heap.size, 0, none⟩) 4 4, .slice (some ⟨w.heap.size, 0, none⟩) 1 2, .slice A 1 1] wx fun e w' => e = .returned (.tuple #[.int .i64 0, .int .i64 3]) ∧ Ext wx w') := hid (fun A wx hx hA => by
      have CT := ask_any [1] Cnd.pA Cnd.rC _ _ _ 4 4 1 2 1 1 wx rfl (RP.out.keep hx) (by decide) rfl ((show Rd y32 _ (i64s [1] ++ i64s [2]) from RK.out).pre.keep hx) (by decide) rfl hA (by decide) (by decide)
      rw [Cnd.ask_c] at CT
      exact CT)
    refine wp_region_tree (.one 0 true (.one 1 true (.one 2 true (.one 3 false (.one 4 false (.one 5 false (.one 6 false (.one 7 true (.one 8 true (.one 9 true (.one 10 true (.one 11 true (.nil))))))))))))) (by kernel_rfl) (by kernel_rfl) (fun _ _ _ _ _ h => h) (by kernel_rfl) (by rfl) ?_
    simp only [fillT, List.getD_cons_zero, List.getD_cons_succ]
    have Y0 : Ext y32 y32.drew := (ext_refl y32).draw
    generalize y32.drew = y0 at Y0 ⊢
    repeat (refine wpTO_val (by rfl) ?_; intro K hK; go_big_quiet_op; go_big_quiet_on)
    refine wpTO_do (by rfl) ?_
    intro K hK
    go_simp
    refine Calls.mono (cNum_any 6 _) ?_
    rintro e y33 ⟨rfl, hx⟩
    have Y33 := Ext.then Y0 hx
    refine hK _ _ Y33 ?_
    clear K hK hx
    refine wpTO_do (by rfl) ?_
    intro K hK
    go_simp
    have HR := rd_lit (w := y33) (g := (y33 : World).heap.size) (C := #[.int .i64 1, .int .u64 6, .string .empty]) (e := 37) (fz := (0, 0)) (cs := cls Cnd.rC) rfl rfl
    have Y34 := Ext.new Y33 (.cells #[.int .i64 1, .int .u64 6, .string .empty] 37)
    refine hK _ _ Y34 ?_
    clear K hK
    refine wpTO_do (by rfl) ?_
    intro K hK
    go_simp
    refine Calls.mono (cells_any _ 1 1 _) ?_
    rintro e _ ⟨rfl, rfl⟩
    refine hK _ _ Y34 ?_
    clear K hK
    refine wpTO_do (by rfl) ?_
    intro K hK
    go_simp
    refine Calls.mono (HAS.out _ _ Y34 HR) ?_
    rintro e y36 ⟨rfl, hx⟩
    have Y36 := Ext.then Y34 hx
    replace HR := Rd.keep HR hx
    refine hK _ _ Y36 ?_
    clear K hK hx
    repeat (refine wpTO_val (by rfl) ?_; intro K hK; go_big_quiet_op; go_big_quiet_on)
    refine wpTO_nil ?_
    have Xq := Xp.out.then Y36
    have RPq := RP.out.keep Y36
    have RKq := RK.out.keep Y36
    clear HAS HR
    have HC : Hid (Calls Try.prog 17 #[.slice (some ⟨w3.heap.size, 0, none⟩) 2 4, .slice (some ⟨w.heap.size, 0, none⟩) 2 2] y36 fun e w' => e = .returned (.int .i64 1) ∧ Ext y36 w') := hid (by
      have CT := pCheck_any [1, 2] (Cnd.pA.take 2) _ _ 2 4 2 2 y36 rfl ((show Rd y36 _ (cns (Cnd.pA.take 2) ++ cns (Cnd.pA.drop 2)) from RPq).pre) (by decide) rfl RKq (by decide)
      rw [Cnd.chk_a] at CT
      exact CT)
    have HS2 : ∀ w', (Instr.sliceAt 22 (.slice (some ⟨w3.heap.size, 0, none⟩) 4 4) none (some (.int .i64 2)) none).run Try.prog w' = .ok (.slice (some ⟨w3.heap.size, 0, none⟩) 2 4) w' := fun w' => sl_to (P := Try.prog) Try.underlying22 infoCond (some ⟨w3.heap.size, 0, none⟩) 4 4 .i64 2 (by decide) w'
    go_wp2_with (go_at_call 17; go_loud (refine HC.out.mono ?_; rintro e wz ⟨rfl, xz⟩; have XZ := hid (Xq.then xz); clear xz))
    go_returns
    exact ⟨rfl, XZ.out⟩
end Go.Proofs.Ytpheegfanljeeaa
end
section
namespace Go.Proofs.Ytpheegfanljeeaa
open Go.RowKit Hy
set_option maxHeartbeats 1600000 in
set_option maxRecDepth 100000 in
theorem predTells_walk (ks : List Int) (p : List Cnd) (row : List Cel) (P K R : Option Addr) (n pcap m kcap r rcap : Nat) (w : World) (hn : p.length = n) (hp : Rd w P (cns p)) (hnl : n ≤ 140737488355328) (hnc : n ≤ pcap) (hm : ks.length = m) (hk : Rd w K (i64s ks)) (hml : m ≤ 140737488355328)
    (hrl : row.length = r) (hrr : Rd w R (cls row)) (hrll : r ≤ 140737488355328) (hrc : r ≤ rcap) (hrs : ∀ x ∈ row, x.2.2.size ≤ 140737488355328) :
    Calls Try.prog 3 #[.slice P n pcap, .slice K m kcap, .slice R r rcap] w fun e w' => e = .returned (.bool true) ∧ Ext w w' := by
  have HA := hid (fun wx (hx : Ext w wx) => ask_any ks p row P K R n pcap m kcap r rcap wx hn (hp.keep hx) hnl hm (hk.keep hx) hml hrl (hrr.keep hx) hrll hrc)
  have HB := hid (fun wx (hx : Ext w wx) => askOf_any ks p row P K R n pcap m kcap r rcap wx hn (hp.keep hx) hnl hnc hm (hk.keep hx) hml hrl (hrr.keep hx) hrll hrc hrs)
  have HC := hid (fun wx (hx : Ext w wx) => pCheck_any ks p P K n pcap m kcap wx hn (hp.keep hx) hnl hm (hk.keep hx) hml)
  have HD := hid (fun wx (hx : Ext w wx) => condCheck_any ks p P K n pcap m kcap wx hn (hp.keep hx) hnl hm (hk.keep hx) hml)
  generalize (Cnd.ask ks p row).1 = a at *
  generalize (Cnd.ask ks p row).2 = b at *
  generalize Cnd.chk ks p = c at *
  clear hn hp hnl hnc hm hk hml hrl hrr hrll hrc hrs
  go_enter Try.func3, Try.ntmps3
  go_wp2_with fail
  refine Calls.mono (HA.out _ (ext_refl _)) ?_
  rintro e w1 ⟨rfl, hx⟩
  have Xp := hid hx
  clear hx
  go_wp2_with fail
  refine Calls.mono (HB.out _ Xp.out) ?_
  rintro e w2 ⟨rfl, hx⟩
  replace Xp := hid (Xp.out.then hx)
  clear hx
  go_wp2_with fail
  refine Calls.mono (predBegun_any _) ?_
  rintro e w3 ⟨rfl, hx⟩
  replace Xp := hid (Xp.out.then hx)
  clear hx
  go_wp2_with fail
  refine Calls.mono (HC.out _ Xp.out) ?_
  rintro e w4 ⟨rfl, hx⟩
  replace Xp := hid (Xp.out.then hx)
  clear hx
  go_wp2_with fail
  refine Calls.mono (HD.out _ Xp.out) ?_
  rintro e w5 ⟨rfl, hx⟩
  replace Xp := hid (Xp.out.then hx)
  clear hx
  go_wp2
  go_returns
  exact ⟨rfl, Xp.out⟩
set_option maxHeartbeats 1600000 in
set_option maxRecDepth 100000 in
theorem pruneTells_walk (ks : List Int) (p : List Cnd) (S : List Sta) (Fs : List Bloom.F) (P K R B : Option Addr) (n pcap m kcap r rcap q qcap : Nat) (w : World) (hn : p.length = n) (hp : Rd w P (cns p)) (hpn : ∀ c ∈ p, c.2.2.2.1 < 18446744073709551616) (hnl : n ≤ 140737488355328) (hnc : n ≤ pcap) (hm : ks.length = m) (hk : Rd w K (i64s ks)) (hml : m ≤ 140737488355328)
    (hrl : S.length = r) (hrr : Rd w R (sts S)) (hrll : r ≤ 140737488355328) (hss : ∀ s ∈ S, s.2.2.1.2.2.size ≤ 140737488355328 ∧ s.2.2.2.2.2.size ≤ 140737488355328) (hql : Fs.length = q) (hrf : Rd w B (frs Fs)) (hqll : q ≤ 140737488355328) (hok : ∀ f ∈ Fs, f.ok) :
    Calls Try.prog 4 #[.slice P n pcap, .slice K m kcap, .slice R r rcap, .slice B q qcap] w fun e w' => e = .returned (.bool true) ∧ Ext w w' := by
  have HA := hid (fun wx (hx : Ext w wx) => prune_any ks p S Fs P K R B n pcap m kcap r rcap q qcap wx hn (hp.keep hx) hpn hnl hm (hk.keep hx) hml hrl (hrr.keep hx) hrll hql (hrf.keep hx) hqll hok)
  have HB := hid (fun wx (hx : Ext w wx) => pruneOf_any ks p S Fs P K R B n pcap m kcap r rcap q qcap wx hn (hp.keep hx) hpn hnl hnc hm (hk.keep hx) hml hrl (hrr.keep hx) hrll hss hql (hrf.keep hx) hqll hok)
  generalize (Cnd.prn ks p S Fs).1 = a at *
  generalize (Cnd.prn ks p S Fs).2 = b at *
  clear hn hp hpn hnl hnc hm hk hml hrl hrr hrll hss hql hrf hqll hok
  go_enter Try.func4, Try.ntmps4
  go_wp2_with fail
  refine Calls.mono (HA.out _ (ext_refl _)) ?_
  rintro e w1 ⟨rfl, hx⟩
  have Xp := hid hx
  clear hx
  go_wp2_with fail
  refine Calls.mono (HB.out _ Xp.out) ?_
  rintro e w2 ⟨rfl, hx⟩
  replace Xp := hid (Xp.out.then hx)
  clear hx
  go_wp2_with fail
  refine Calls.mono (predBegun_any _) ?_
  rintro e w3 ⟨rfl, hx⟩
  replace Xp := hid (Xp.out.then hx)
  clear hx
  go_wp2
  go_returns
  exact ⟨rfl, Xp.out⟩
end Go.Proofs.Ytpheegfanljeeaa
end
