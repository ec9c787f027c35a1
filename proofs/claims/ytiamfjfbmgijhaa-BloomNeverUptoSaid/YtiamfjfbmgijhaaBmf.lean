/- Bloom: the laws, walked. -/
import Derived.Test.YtiamfjfbmgijhaaBmb
import Derived.Test.YtiamfjfbmgijhaaBme
namespace Go.Proofs.Ytiamfjfbmgijhaa
open Go.RowKit Hy

set_option maxHeartbeats 2000000 in
theorem btells_core (f g fl fc u : Bloom.F) (k : Int) (n : Nat) (s : ByteArray) (A : Option Addr) (len cap hh : Nat) (mb : Bool) (w : World)
    (GB : Gives Try.prog 12 #[] (.bool true))
    (G25 : Gives Try.prog 25 #[.agg #[.int .i64 k, .int .u64 n, .string s]] (.int .u64 hh))
    (G26 : Gives Try.prog 26 #[.agg #[.int .i64 k, .int .u64 n, .string s]] (.int .u64 hh))
    (G11 : Gives Try.prog 11 #[.agg #[.int .u64 (f 0), .int .u64 (f 1), .int .u64 (f 2), .int .u64 (f 3)], .agg #[.int .i64 k, .int .u64 n, .string s]] (.agg #[.int .u64 (fc 0), .int .u64 (fc 1), .int .u64 (fc 2), .int .u64 (fc 3)]))
    (H27c : Hid (∀ (w : World) (A : Option Addr), Rd w A [.int .i64 k, .int .u64 n, .string s] → Calls Try.prog 27 #[.agg #[.int .u64 (f 0), .int .u64 (f 1), .int .u64 (f 2), .int .u64 (f 3)], .slice A 1 1] w fun e w' => e = .returned (.agg #[.int .u64 (fc 0), .int .u64 (fc 1), .int .u64 (fc 2), .int .u64 (fc 3)]) ∧ Ext w w'))
    (H14 : Hid (∀ wx, Ext w wx → Calls Try.prog 14 #[.slice A len cap] wx fun e w' => e = .returned (.agg #[.int .u64 (fl 0), .int .u64 (fl 1), .int .u64 (fl 2), .int .u64 (fl 3)]) ∧ Ext wx w'))
    (H27 : Hid (∀ wx, Ext w wx → Calls Try.prog 27 #[.agg #[.int .u64 0, .int .u64 0, .int .u64 0, .int .u64 0], .slice A len cap] wx fun e w' => e = .returned (.agg #[.int .u64 (fl 0), .int .u64 (fl 1), .int .u64 (fl 2), .int .u64 (fl 3)]) ∧ Ext wx w'))
    (G13 : Gives Try.prog 13 #[.agg #[.int .u64 (f 0), .int .u64 (f 1), .int .u64 (f 2), .int .u64 (f 3)], .agg #[.int .i64 k, .int .u64 n, .string s]] (.bool mb))
    (G29 : Gives Try.prog 29 #[.agg #[.int .u64 (f 0), .int .u64 (f 1), .int .u64 (f 2), .int .u64 (f 3)], .agg #[.int .i64 k, .int .u64 n, .string s]] (.bool mb))
    (G24 : Gives Try.prog 24 #[.agg #[.int .u64 (f 0), .int .u64 (f 1), .int .u64 (f 2), .int .u64 (f 3)], .agg #[.int .u64 (g 0), .int .u64 (g 1), .int .u64 (g 2), .int .u64 (g 3)]] (.agg #[.int .u64 (u 0), .int .u64 (u 1), .int .u64 (u 2), .int .u64 (u 3)]))
    (G30 : Gives Try.prog 30 #[.agg #[.int .u64 (f 0), .int .u64 (f 1), .int .u64 (f 2), .int .u64 (f 3)], .agg #[.int .u64 (g 0), .int .u64 (g 1), .int .u64 (g 2), .int .u64 (g 3)]] (.agg #[.int .u64 (u 0), .int .u64 (u 1), .int .u64 (u 2), .int .u64 (u 3)])) :
    Calls Try.prog 10 #[.agg #[.int .u64 (f 0), .int .u64 (f 1), .int .u64 (f 2), .int .u64 (f 3)], .agg #[.int .u64 (g 0), .int .u64 (g 1), .int .u64 (g 2), .int .u64 (g 3)], .slice A len cap, .agg #[.int .i64 k, .int .u64 n, .string s]] w fun e w' => e = .returned (.bool true) ∧ Ext w w' := by
  have eq := eqT 23 und23
  go_enter Try.func10, Try.ntmps10
  go_wp2
  refine wp_gen (fun w' => Ext w w' ∧ Blk w' w.heap.size 23 #[.int .u64 (f 0), .int .u64 (f 1), .int .u64 (f 2), .int .u64 (f 3)] ∧ Blk w' (w.heap.size + 1) 23 #[.int .u64 (g 0), .int .u64 (g 1), .int .u64 (g 2), .int .u64 (g 3)] ∧ Blk w' (w.heap.size + 2) 26 #[.int .i64 k, .int .u64 n, .string s])
    ⟨(((ext_refl _).new _).new _).new _, ((Blk.new _ _ _).alloc _).alloc _, Blk.alloc (Blk.newAt (by simp)) _, Blk.newAt (by simp)⟩ ?_
  rintro wz ⟨B, B1, B2, B3⟩
  have a0 := B1.cell 0
  have a1 := B1.cell 1
  have a2 := B1.cell 2
  have a3 := B1.cell 3
  have b0 := B2.cell 0
  have b1 := B2.cell 1
  have b2 := B2.cell 2
  have b3 := B2.cell 3
  have c0 := B3.cell 0
  have c1 := B3.cell 1
  have c2 := B3.cell 2
  clear a0 a1 a2 a3 b0 b1 b2 b3 c0 c1 c2
  have S0 := B1.cell 0
  have S1 := B1.cell 1
  have S2 := B1.cell 2
  have S3 := B1.cell 3
  have S4 := B2.cell 0
  have S5 := B2.cell 1
  have S6 := B2.cell 2
  have S7 := B2.cell 3
  have S8 := B3.cell 0
  have S9 := B3.cell 1
  have S10 := B3.cell 2
  have S11 := (ext_refl wz).draw
  go_region_held3 (fun w' => Ext wz w' ∧ w'.cell? ⟨w.heap.size, 0, none⟩ = some (.int .u64 (f 0)) ∧ w'.cell? ⟨w.heap.size, 1, none⟩ = some (.int .u64 (f 1)) ∧ w'.cell? ⟨w.heap.size, 2, none⟩ = some (.int .u64 (f 2)) ∧ w'.cell? ⟨w.heap.size, 3, none⟩ = some (.int .u64 (f 3))
      ∧ w'.cell? ⟨w.heap.size + 1, 0, none⟩ = some (.int .u64 (g 0)) ∧ w'.cell? ⟨w.heap.size + 1, 1, none⟩ = some (.int .u64 (g 1)) ∧ w'.cell? ⟨w.heap.size + 1, 2, none⟩ = some (.int .u64 (g 2)) ∧ w'.cell? ⟨w.heap.size + 1, 3, none⟩ = some (.int .u64 (g 3))
      ∧ w'.cell? ⟨w.heap.size + 2, 0, none⟩ = some (.int .i64 k) ∧ w'.cell? ⟨w.heap.size + 2, 1, none⟩ = some (.int .u64 n) ∧ w'.cell? ⟨w.heap.size + 2, 2, none⟩ = some (.string s))
    (first
      | (refine ⟨?_, ?_, ?_, ?_, ?_, ?_, ?_, ?_, ?_, ?_, ?_, ?_⟩ <;> (first | (refine ext_cell eX ?_; simp only [*]; done) | (refine Ext.then ?_ eX; simp only [*]; done)))
      | (refine ⟨?_, ?_, ?_, ?_, ?_, ?_, ?_, ?_, ?_, ?_, ?_, ?_⟩ <;> (first | (refine ext_cell ((ext_refl _).new _) ?_; simp only [*]; done) | (refine Ext.new ?_ _; simp only [*]; done)))
      | (simp only [*]; done)
      | go_keep)
    (first
      | (go_at_call 12; refine (GB _).mono ?_; rintro e w1 ⟨rfl, eX⟩)
      | (go_at_call 25; refine (G25 _).mono ?_; rintro e w2 ⟨rfl, eX⟩)
      | (go_at_call 26; refine (G26 _).mono ?_; rintro e w3 ⟨rfl, eX⟩)
      | (go_at_call 11; refine (G11 _).mono ?_; rintro e w4 ⟨rfl, eX⟩)
      | (go_at_call 28; refine (cells_any _ _ _ _).mono ?_; rintro e w5 ⟨rfl, rfl⟩)
      | (go_at_call_of 27 (Value.agg #[.int .u64 (f 0), .int .u64 (f 1), .int .u64 (f 2), .int .u64 (f 3)]); refine (H27c.out _ _ ?_).mono ?_; (first | exact rd_lit rfl rfl | exact (rd_lit rfl rfl).keep eX); rintro e w6 ⟨rfl, eX⟩)
      | (go_at_call 14; refine (H14.out _ ?_).mono ?_; (refine Ext.then B ?_; simp only [*]); rintro e w7 ⟨rfl, eX⟩)
      | (go_at_call_of 27 (Value.agg #[.int .u64 0, .int .u64 0, .int .u64 0, .int .u64 0]); refine (H27.out _ ?_).mono ?_; (refine Ext.then B ?_; simp only [*]); rintro e w8 ⟨rfl, eX⟩)
      | (go_at_call 13; refine (G13 _).mono ?_; rintro e w9 ⟨rfl, eX⟩)
      | (go_at_call 29; refine (G29 _).mono ?_; rintro e w10 ⟨rfl, eX⟩)
      | (go_at_call 24; refine (G24 _).mono ?_; rintro e w11 ⟨rfl, eX⟩)
      | (go_at_call 30; refine (G30 _).mono ?_; rintro e w12 ⟨rfl, eX⟩))
  all_goals
    go_wp2
    go_returns
    refine ⟨rfl, B.then ?_⟩
    simp only [*]

theorem btells_any (f g : Bloom.F) (l : List C) (len : Nat) (A : Option Addr) (cap : Nat) (k : Int) (n : Nat) (s : ByteArray) (w : World) (hf : f.ok) (hg : g.ok) (hr : Rd w A (l.flatMap C.cells)) (hok : C.okL l) (hl : l.length = len) (hlen : len ≤ 140737488351232) (h3 : n < 18446744073709551616) (h4 : s.size ≤ 140737488351232) :
    Calls Try.prog 10 #[.agg #[.int .u64 (f 0), .int .u64 (f 1), .int .u64 (f 2), .int .u64 (f 3)], .agg #[.int .u64 (g 0), .int .u64 (g 1), .int .u64 (g 2), .int .u64 (g 3)], .slice A len cap, .agg #[.int .i64 k, .int .u64 n, .string s]] w fun e w' => e = .returned (.bool true) ∧ Ext w w' :=
  btells_core f g (Bloom.of Bloom.none l) (Bloom.add f ⟨k, n, s⟩) (Bloom.union f g) k n s A len cap _ _ w
    bbegun_any (fun w => hash_any k n s w h3 h4) (fun w => hashOf_any k n s w h3 h4) (fun w => add_f_any f k n s w hf h3 h4)
    (fun w A hr => filterOf_any f [⟨k, n, s⟩] 1 A 1 w hf hr (fun c hc => by simp at hc; subst hc; exact ⟨h3, h4⟩) rfl (by decide))
    (fun wx hx => of_f_any l len A cap wx (hr.keep hx) hok hl hlen)
    (fun wx hx => filterOf_any Bloom.none l len A cap wx Bloom.none_ok (hr.keep hx) hok hl hlen)
    (fun w => may_f_any f k n s w hf h3 h4) (fun w => mayOf_any f k n s w hf h3 h4) (fun w => union_f_any f g w hf hg) (fun w => unionOf_any f g w hf hg)
end Go.Proofs.Ytiamfjfbmgijhaa
