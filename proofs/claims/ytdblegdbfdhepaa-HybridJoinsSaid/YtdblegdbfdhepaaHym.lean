/- Hybrid: the law Joins: walk (printed by gen_hjoins.py). -/
import Derived.Test.YtdblegdbfdhepaaHyk
import Derived.Test.YtdblegdbfdhepaaNil
namespace Hy.Hyb
open Go
/-- two texts, one behind the other -/
theorem rdl_two {a b : List Nat} {k : Nat} (hk : k ≤ 64) (h8 : a.length % 8 = 0) (hs : a.length + b.length ≤ 64) (ha : ∀ x ∈ a, x < 2 ^ k) (hb : ∀ x ∈ b, x < 2 ^ k) (hrow : ∀ i, i < a.length → row (a.drop i) < 8) :
    rdl (raw a k ++ raw b k) (a.length + b.length : Nat) k = (a ++ b, 0) := by
  rw [rdl_in hk hs]
  unfold raw
  rw [parts_plain a.length a [] (Nat.le_refl _) hrow, List.nil_append]
  by_cases h0 : a = []
  · subst h0
    rw [shut_nil, flat_nil, List.nil_append]
    have := rd_parts k b.length hk (by simpa using hs) b.length b [] [] [] b.length (Nat.le_refl _) (by simpa using hb) (.inl rfl) (by simp) (by simp)
    simpa using this
  · have hp := List.length_pos_iff.2 h0
    obtain ⟨f, hf⟩ : ∃ f, a.length + b.length = f + 1 := ⟨a.length + b.length - 1, by omega⟩
    rw [shut_of a h0, flat_cons, flat_nil, List.append_nil]
    have e1 := rd_blk k (a.length + b.length) f a (flat k (parts [] b)) [] hk ha h0 (by simp) (.inr h8) hs
    have e2 := rd_parts k (a.length + b.length) hk hs b.length b [] a [] f (Nat.le_refl _) (by simpa using hb) (.inl rfl) (by simp) (by simp; omega)
    rw [← hf] at e1
    rw [e1, List.nil_append]
    simpa using e2
/-- no eight of one number stand in a row from a place on -/
theorem row_small {a : List Nat} {i x : Nat} (hx : a[i]? = some x) (h : i + 8 ≤ a.length → (a.drop i).take 8 ≠ List.replicate 8 x) : row (a.drop i) < 8 := by
  rcases Nat.lt_or_ge (row (a.drop i)) 8 with h1 | h1
  · exact h1
  · exfalso
    obtain ⟨hi, rfl⟩ := List.getElem?_eq_some_iff.1 hx
    have hle := row_le (a.drop i)
    rw [List.length_drop] at hle
    refine h (by omega) ?_
    have e := List.drop_eq_getElem_cons hi
    have ht := row_take a[i] (a.drop (i + 1))
    rw [← e] at ht
    have h2 := congrArg (List.take 8) ht
    rw [List.take_take, Nat.min_eq_left h1, List.take_replicate, Nat.min_eq_left h1] at h2
    exact h2
theorem win_ne {a : List Nat} {i x y : Nat} (hy : a[i + 7]? = some y) (hne : x ≠ y) : (a.drop i).take 8 ≠ List.replicate 8 x := fun h => by
  have h1 := congrArg (fun l : List Nat => l[7]?) h
  simp only [List.getElem?_take, List.getElem?_drop, hy] at h1
  simp at h1; exact hne h1.symm
end Hy.Hyb
namespace Hy
open Go Go.RowKit
/-- the same at an operation that waits for a guard -/
theorem wpList_app_g {P : Program} {w : World} {ops : Array Oper} {rest : List Oper} {o : Oper} {a : Act} {Q : Exit → Act → World → Prop} (hw : Region.wanted o (yielded ops a.tmps) = true) (s x : Operand) {t tx e : TypeId} {size bytes base : Nat} (T : RowT P t e size bytes)
    (ho : o.op = .call { callee := .builtin .append, args := #[s, x], argTypes := #[t, tx] })
    (v : Value) (n : Nat) (xs : List Value) (hs : a.eval s = v) (hown : w.ownsRow base e size v n xs) (xv : Value) (m : Nat) (news : List Value) (hx : a.eval x = xv) (hsrc : Src P size tx xv m news w)
    (h63 : n + m ≤ maxLen) (hbytes : (n + m + (n + m) / 4 + 192) * bytes ≤ 281474976710656) (hbase : base ≤ w.heap.size)
    (h : ∀ v' w', w'.ownsRow base e size v' (n + m) (xs ++ news) → w.grownBy w' v.ownBlock → (v'.ownBlock = v.ownBlock ∨ v'.ownBlock = some w.heap.size) → Below base w w' → wpList P ops Q rest (a.put o.dst v') w') : wpList P ops Q (o :: rest) a w :=
  wpList_step fun _ hK => by
    simp only [hw, if_true]
    exact wp_app s x T ho v n xs hs hown xv m news hx hsrc h63 hbytes hbase fun v' w' h2 h3 h4 h5 => hK _ _ (h v' w' h2 h3 h4 h5)
end Hy
namespace Go.Proofs.Ytdblegdbfdhepaa
open Go.RowKit Hy
set_option maxHeartbeats 1000000 in
theorem repeated_any (x k : Nat) (w : World) (hk : k ≤ 1000) (hx : x < 18446744073709551616) :
    Calls Try.prog 27 #[.int .u64 x, .int .i64 k] w fun e w' => ∃ A cap, e = .returned (.slice A k cap) ∧ Rd w' A (u64s (List.replicate k x)) ∧ Ext w w' := by
  have hkI : (k : Int) ≤ 1000 := by omega
  have hxI : (x : Int) ≤ 18446744073709551615 := by omega
  have HK := hid hk
  clear hx hk
  go_enter Try.func27, Try.ntmps27
  go_wp2
  go_loopw [5, 6] (fun v c wr => ∃ i : Nat, i ≤ k ∧ c = .int .i64 i ∧ Hid (wr.ownsRow w.heap.size 33 1 v i (u64s (List.replicate i x))) ∧ Ext w wr) (fun _ c _ => k - (intOf c).toNat)
  case atStart => exact ⟨0, Nat.zero_le _, rfl, hid (World.ownsRow_nil _ _ _ _), ext_refl _⟩
  case round =>
    obtain ⟨i, hi, rfl, HO, X⟩ := hrel
    by_cases hlt : i < k
    · have hltI : (i : Int) < (k : Int) := by omega
      have HI := hid (show i ≤ 1000 by have := HK.out; omega)
      go_wp2_with (at_builtin; refine wpList_app rfl (.tmp 12) (.tmp 14) rowU64 rfl _ i _ rfl (own_ext HO.out ((ext_refl _).new _)) _ 1 (u64s [x]) rfl (Src.rd Try.underlying22 _ 1 1 _ rfl (rd_lit rfl rfl) (u64s_one _) (fun h => by cases h)) (by have := HI.out; unfold maxLen; omega) (by have := HI.out; omega) (by have := X.size; simp; omega) ?_; intro v' w3 hown3 hgrow hat hbel; have O3 := hid hown3; have X3 := hid ((X.new _).trans hbel); clear hown3 hgrow hat hbel)
      go_roundw
      case rel => exact ⟨i + 1, by omega, by go_num, hid (by rw [List.replicate_succ', u64s_app]; exact O3.out), X3.out⟩
      case measure => simp [intOf]; omega
    · obtain rfl : i = k := by omega
      obtain ⟨A, c, rfl, hrd, _⟩ := Rd.owned HO.out
      have HRD := hid hrd
      clear hrd
      go_wp2
      go_returns
      exact ⟨A, c, rfl, HRD.out, X⟩
set_option maxRecDepth 100000 in
set_option maxHeartbeats 8000000 in
theorem hybridJoins_walk (a b : List Nat) (A B : Option Addr) (n m ca cb : Nat) (wd : Int) (w : World) (hn : a.length = n) (hm : b.length = m) (ha : Rd w A (u64s a)) (hb : Rd w B (u64s b)) (hca : n ≤ ca) (hcb : m ≤ cb)
    (hla : ∀ x ∈ a, x < 18446744073709551616) (hlb : ∀ x ∈ b, x < 18446744073709551616) (hnl : n ≤ 1000000000000000) (hml : m ≤ 1000000000000000) :
    Calls Try.prog 6 #[.slice A n ca, .slice B m cb, .int .i64 wd] w fun e w' => e = .returned (.bool true) ∧ Ext w w' := by
  have H1 := hid (hyWrite_any a A n ca wd w hn ha hca hla (by omega))
  have H2 := hid (fun wx (hx : Ext w wx) => hyWrite_any b B m cb wd wx hm (hb.keep hx) hcb hlb (by omega))
  have hnI : (n : Int) ≤ 1000000000000000 := by omega
  have hmI : (m : Int) ≤ 1000000000000000 := by omega
  by_cases h0 : (Hyb.wrt a wd).2 = 0
  · by_cases h1 : (Hyb.wrt b wd).2 = 0
    · obtain ⟨k, rfl, a2, a3, a4, a5, _⟩ := Hyb.wrt_inv h0 hla
      obtain ⟨k', hk', b2, b3, b4, b5, _⟩ := Hyb.wrt_inv h1 hlb
      obtain rfl : k' = k := by omega
      rw [a5] at H1
      rw [b5] at H2
      have hl1 := Hyb.raw_len a k' a2 a3
      have hl2 := Hyb.raw_len b k' a2 b3
      have hz1 := Nat.mul_le_mul a3 a2
      have hz2 := Nat.mul_le_mul b3 a2
      obtain ⟨VA, hVA⟩ : ∃ V : ByteArray, V = ⟨(Hyb.raw a k').toArray⟩ := ⟨_, rfl⟩
      obtain ⟨VB, hVB⟩ : ∃ V : ByteArray, V = ⟨(Hyb.raw b k').toArray⟩ := ⟨_, rfl⟩
      have hcat : (⟨(Hyb.raw a k' ++ Hyb.raw b k').toArray⟩ : ByteArray) = VA ++ VB := by rw [hVA, hVB]; exact (str_app _ _).symm
      have hA1 : VA.size ≤ 1000 := by rw [hVA, str_size]; unfold Bits.size at hl1; omega
      have hB1 : VB.size ≤ 1000 := by rw [hVB, str_size]; unfold Bits.size at hl2; omega
      have hkI : (k' : Int) ≤ 64 := by omega
      have hn64 : (n : Int) ≤ 64 := by omega
      have hm64 : (m : Int) ≤ 64 := by omega
      have HTWO := hid (fun (h8 : a.length % 8 = 0) (hs : a.length + b.length ≤ 64) hrow => Hyb.rdl_two (k := k') a2 h8 hs a4 b4 hrow)
      rw [← hVA] at H1
      rw [← hVB] at H2
      have HCAT := hid hcat
      have HN := hid hn
      have HM := hid hm
      have HA := hid ha
      have HB := hid hb
      have HLA := hid hla
      have HCA := hid hca
      clear hVA hVB hcat hl1 hl2 hz1 hz2 a2 a3 a4 a5 b2 b3 b4 b5 h0 h1 ha hb hn hm hla hlb hca hcb hk' hnl hml
      by_cases h8 : n % 8 = 0
      · have h8I : (n : Int) % 8 = 0 := by omega
        have h8b : ((n : Int) % 8 != 0) = false := by rw [bne_eq_false_iff_eq]; omega
        have h8c : (n : Int).tmod 8 = 0 := by rw [Int.tmod_eq_emod_of_nonneg (by omega)]; omega
        have H8 := hid (show a.length % 8 = 0 by rw [HN.out]; exact h8)
        clear h8
        by_cases hs : n + m ≤ 64
        · have hsI : (n : Int) + (m : Int) ≤ 64 := by omega
          have hdec : decide (64 < n + m) = false := by rw [decide_eq_false_iff_not]; omega
          have hdec2 : decide (64 < (n : Int) + (m : Int)) = false := by rw [decide_eq_false_iff_not]; omega
          have HS := hid hs
          clear hs
          go_enter Try.func6, Try.ntmps6
          go_wp2_with fail
          refine Calls.mono H1.out ?_
          rintro e w1 ⟨rfl, b1⟩
          have X1 := hid b1
          clear b1
          go_wp2_with fail
          refine Calls.mono (H2.out _ X1.out) ?_
          rintro e w2 ⟨rfl, hx⟩
          replace X1 := hid (X1.out.then hx)
          clear hx
          go_wp2_with fail
          refine Calls.mono (hybridBegun_any _) ?_
          rintro e w4 ⟨rfl, hx⟩
          replace X1 := hid (X1.out.then hx)
          clear hx
          go_wp2
          go_loopw [11] (fun c wr => ∃ i : Nat, i ≤ n ∧ c = .int .i64 i ∧ Hid (∀ j x, j < i → a[j]? = some x → j + 8 ≤ a.length → (a.drop j).take 8 ≠ List.replicate 8 x) ∧ Ext w wr) (fun c _ => n - (intOf c).toNat)
          case atStart => exact ⟨0, Nat.zero_le _, rfl, hid (fun j x h => by omega), X1.out⟩
          case round =>
            obtain ⟨i, hi, rfl, HW, X⟩ := hrel
            by_cases hlt : i < n
            · have hltI : (i : Int) < (n : Int) := by omega
              obtain ⟨x, hx⟩ : ∃ x, a[i]? = some x := ⟨_, List.getElem?_eq_getElem (by rw [HN.out]; exact hlt)⟩
              have HX := hid hx
              by_cases h8' : i + 8 ≤ n
              · have h8J : (i : Int) + 8 ≤ (n : Int) := by omega
                obtain ⟨y, hy⟩ : ∃ y, a[i + 7]? = some y := ⟨_, List.getElem?_eq_getElem (by rw [HN.out]; omega)⟩
                have HY := hid hy
                obtain ⟨b1, o1, rfl, l1, c1⟩ := HA.out.num0 (by rw [HN.out]; omega)
                have d0 := (X.cell (p := ⟨b1, o1 + i, none⟩) l1).trans (c1 i x hx)
                have d1 := (X.cell (p := ⟨b1, o1 + (i + 7), none⟩) l1).trans (c1 (i + 7) y hy)
                have d0r := cell_regrown d0
                have d1r := cell_regrown d1
                have hw8 : IntKind.i64.wrap ((i : Int) + 8) = (i : Int) + 8 := by rw [IntKind.wrap_i64]; omega
                have hw7 : IntKind.i64.wrap (IntKind.i64.wrap ((i : Int) + 8) - 1) = (i : Int) + 7 := by rw [hw8, IntKind.wrap_i64]; omega
                have hi8 : (i : Int) + 8 - 1 = ((i + 7 : Nat) : Int) := by omega
                have hw9 : IntKind.i64.wrap (((i + 7 : Nat) : Int)) = ((i + 7 : Nat) : Int) := by rw [IntKind.wrap_i64]; omega
                have hdl : decide (i + 8 ≤ n) = true := decide_eq_true h8'
                have hdl2 : decide ((i : Int) + 8 ≤ (n : Int)) = true := decide_eq_true h8J
                have hxl := HLA.out x (List.mem_of_getElem? hx)
                by_cases hxy : x = y
                · subst hxy
                  have hbe : ((x : Int) == (x : Int)) = true := by simp
                  have HRP := hid (fun wx => repeated_any x 8 wx (by omega) hxl)
                  have hrm : Rd w (slF (some ⟨b1, o1, none⟩) i ca 1) (u64s ((a.drop i).take 8)) := by
                    have h := HA.out.u64from i ca (by rw [HN.out]; exact HCA.out)
                    rw [← List.take_append_drop 8 (a.drop i), u64s_app] at h
                    exact h.pre
                  have htl : ((a.drop i).take 8).length = 8 := by rw [List.length_take, List.length_drop, HN.out]; omega
                  have HSN := hid (fun (B2 : Option Addr) (c2 : Nat) (wx : World) (hx2 : Ext w wx) (h2 : Rd wx B2 (u64s (List.replicate 8 x))) => sameNums_any ((a.drop i).take 8) (List.replicate 8 x) (slF (some ⟨b1, o1, none⟩) i ca 1) B2 8 8 (ca - i) c2 wx htl (by simp) (hrm.keep hx2) h2 (by decide))
                  have HSM := fun wx : World => sl_mid (P := Try.prog) (t := 22) (e := 33) (m := 1) Try.underlying22 (by kernel_rfl) (some ⟨b1, o1, none⟩) n ca .i64 .i64 i (i + 8) (by omega) (by have := HCA.out; omega) wx
                  rw [show i + 8 - i = 8 by omega] at HSM
                  have hj1 : (((i + 8 : Nat) : Nat) : Int) = (i : Int) + 8 := by omega
                  simp only [hj1] at HSM
                  obtain ⟨R2, hR2⟩ : ∃ R2, R2 = slF (some ⟨b1, o1, none⟩) i ca 1 := ⟨_, rfl⟩
                  rw [← hR2] at HSM HSN
                  obtain ⟨r, hr⟩ : ∃ r, r = sameNums ((a.drop i).take 8) (List.replicate 8 x) := ⟨_, rfl⟩
                  rw [← hr] at HSN
                  have HRR := hid hr
                  clear hx hy c1 hxl hrm htl hR2 hr
                  go_wp2
                  refine wp_region_walk [(0, true), (1, true), (2, true), (3, false), (4, true), (5, true), (6, true), (7, true), (8, true), (9, true), (10, true), (11, true), (12, true), (13, true), (14, true), (15, true), (16, true), (17, true), (18, true), (19, true), (20, true), (21, true), (22, true), (23, true), (24, true), (25, true), (26, true), (27, true), (28, false), (29, false), (30, true)] (by kernel_rfl) (by kernel_rfl) (fun _ _ _ _ _ h => h) (by kernel_rfl) (by rfl) ?_
                  simp only [List.filterMap_cons, List.filterMap_nil, List.getElem?_toArray, List.getElem?_cons_zero, List.getElem?_cons_succ, Option.map_some]
                  repeat (refine wpM_val (by rfl) ?_; intro K hK; go_big_quiet_op; go_big_quiet_on)
                  refine wpM_do (by rfl) ?_
                  intro K hK
                  go_simp
                  refine hK _ _ (Ext.draw (ext_refl _)) ?_
                  clear K hK
                  repeat (refine wpM_val (by rfl) ?_; intro K hK; go_big_quiet_op; go_big_quiet_on)
                  refine wpM_do (by rfl) ?_
                  intro K hK
                  go_simp
                  refine Calls.mono (HRP.out _) ?_
                  rintro e w5 ⟨B2, c2, rfl, hrd2, hx⟩
                  have Y2 := (Ext.draw (ext_refl _)).then hx
                  refine hK _ _ Y2 ?_
                  clear K hK hx
                  refine wpM_do (by rfl) ?_
                  intro K hK
                  go_simp
                  refine Calls.mono (HSN.out _ _ _ (X.then Y2) hrd2) ?_
                  rintro e w6 ⟨rfl, hx⟩
                  have Y3 := Y2.then hx
                  refine hK _ _ Y3 ?_
                  clear K hK hx
                  repeat (refine wpM_val (by rfl) ?_; intro K hK; go_big_quiet_op; go_big_quiet_on)
                  refine wpM_nil ?_
                  have X3 := X.then Y3
                  clear Y2 Y3 hrd2
                  cases r with
                  | true =>
                    go_wp2
                    go_returns
                    exact ⟨rfl, X3⟩
                  | false =>
                    have HW2 := hid (show ∀ j x, j < i + 1 → a[j]? = some x → j + 8 ≤ a.length → (a.drop j).take 8 ≠ List.replicate 8 x from fun j z h1 h2 h3 => by
                      rcases Nat.lt_or_ge j i with h | h
                      · exact HW.out j z h h2 h3
                      · obtain rfl : j = i := by omega
                        have := HX.out
                        rw [h2] at this
                        injection this with this
                        subst this
                        exact of_decide_eq_false HRR.out.symm)
                    go_wp2
                    go_roundw
                    case rel => exact ⟨i + 1, by omega, by go_num, HW2, X3⟩
                    case measure => simp [intOf]; omega
                · have hbe : ((x : Int) == (y : Int)) = false := by rw [beq_eq_false_iff_ne]; omega
                  have hbe2 : (x == y) = false := by rw [beq_eq_false_iff_ne]; exact hxy
                  have hbe3 : decide (x = y) = false := decide_eq_false hxy
                  have HW2 := hid (show ∀ j x, j < i + 1 → a[j]? = some x → j + 8 ≤ a.length → (a.drop j).take 8 ≠ List.replicate 8 x from fun j z h1 h2 h3 => by
                    rcases Nat.lt_or_ge j i with h | h
                    · exact HW.out j z h h2 h3
                    · obtain rfl : j = i := by omega
                      have := HX.out
                      rw [h2] at this
                      injection this with this
                      subst this
                      exact Hyb.win_ne HY.out hxy)
                  clear hx hy c1 hxl
                  go_wp2_with fail
                  go_quiet (fail)
                  go_wp2
                  go_roundw
                  case rel => exact ⟨i + 1, by omega, by go_num, HW2, X.draws _⟩
                  case measure => simp [intOf]; omega
              · have h8J : ¬ (i : Int) + 8 ≤ (n : Int) := by omega
                have hdl : decide (i + 8 ≤ n) = false := decide_eq_false h8'
                have hdl2 : decide ((i : Int) + 8 ≤ (n : Int)) = false := decide_eq_false h8J
                have hw8 : IntKind.i64.wrap ((i : Int) + 8) = (i : Int) + 8 := by rw [IntKind.wrap_i64]; omega
                have HW2 := hid (show ∀ j x, j < i + 1 → a[j]? = some x → j + 8 ≤ a.length → (a.drop j).take 8 ≠ List.replicate 8 x from fun j z h1 h2 h3 => by
                  rcases Nat.lt_or_ge j i with h | h
                  · exact HW.out j z h h2 h3
                  · rw [HN.out] at h3; omega)
                clear hx
                go_wp2_with fail
                go_quiet (fail)
                go_wp2
                go_roundw
                case rel => exact ⟨i + 1, by omega, by go_num, HW2, X.draws _⟩
                case measure => simp [intOf]; omega
            · obtain rfl : i = n := by omega
              have hrow : ∀ j, j < a.length → Hyb.row (a.drop j) < 8 := fun j hj => by
                obtain ⟨x, hx⟩ : ∃ x, a[j]? = some x := ⟨_, List.getElem?_eq_getElem hj⟩
                exact Hyb.row_small hx (HW.out j x (by rw [← HN.out]; exact hj) hx)
              have ht := HTWO.out H8.out (by rw [HN.out, HM.out]; exact HS.out) hrow
              rw [HN.out, HM.out] at ht
              have H3 := hid (fun wx => hyRead_of _ _ _ wx _ _ ht)
              rw [HCAT.out] at H3
              have hsum : (((i + m : Nat) : Nat) : Int) = (i : Int) + (m : Int) := by omega
              simp only [hsum] at H3
              have hab : (a ++ b).length = i + m := by rw [List.length_append, HN.out, HM.out]
              rw [hab] at H3
              have HAB := hid hab
              have SA := hid (fun (wx : World) (hx : Ext w wx) => Src.rd (P := Try.prog) (size := 1) (w := wx) Try.underlying22 A i ca (u64s a) (by rw [u64s_len, HN.out, Nat.mul_one]) (HA.out.keep hx) (u64s_one _) (fun h => HA.out.nil_of (by rw [u64s_len, HN.out]) h))
              have SB := hid (fun (wx : World) (hx : Ext w wx) => Src.rd (P := Try.prog) (size := 1) (w := wx) Try.underlying22 B m cb (u64s b) (by rw [u64s_len, HM.out, Nat.mul_one]) (HB.out.keep hx) (u64s_one _) (fun h => HB.out.nil_of (by rw [u64s_len, HM.out]) h))
              have HSS := hid HS.out
              have HX := hid X
              clear hrow ht hsum hab X hlt
              go_wp2_with fail
              refine Calls.mono (H3.out _) ?_
              rintro e w5 ⟨C, c, rfl, hrd, hx⟩
              have HR := hid hrd
              have HB2 := hid (HX.out.then hx)
              clear hrd hx
              go_wp2_with (first
                | (at_builtin; refine wpList_app_g (by kernel_rfl) (.tmp 102) (.tmp 103) rowU64 rfl _ 0 [] rfl (own_new (base := w5.heap.size) rfl rfl (Nat.le_refl _) (by decide)) _ i (u64s a) rfl (SA.out _ (HB2.out.new _)) (by have := HSS.out; unfold maxLen; omega) (by have := HSS.out; omega) (by simp) ?_; intro v3 w6 hown3 hg3 ha3 hb3; simp only [Nat.zero_add, List.nil_append] at hown3; have HO3 := hid hown3; have E3 := hid (((ext_refl w5).new _).trans hb3); clear hown3 hg3 ha3 hb3)
                | (at_builtin; refine wpList_app_g (by kernel_rfl) (.tmp 104) (.tmp 105) rowU64 rfl _ i (u64s a) rfl HO3.out _ m (u64s b) rfl (SB.out _ (HB2.out.then E3.out)) (by have := HSS.out; unfold maxLen; omega) (by have := HSS.out; omega) (by have := E3.out.size; omega) ?_; intro v4 w7 hown4 hg4 ha4 hb4; obtain ⟨A4, c4, rfl, hr4, _⟩ := Rd.owned hown4; have HR4 := hid hr4; have E4 := hid (E3.out.trans hb4); clear hown4 hg4 ha4 hb4 hr4))
              refine Calls.mono (sameNums_self (a ++ b) _ _ (i + m) _ _ _ HAB.out (HR.out.keep E4.out) (by rw [u64s_app]; exact HR4.out) (by have := HSS.out; omega)) ?_
              rintro e w8 ⟨rfl, hx⟩
              have XE := hid ((HB2.out.then E4.out).then hx)
              clear hx
              go_wp2
              go_returns
              exact ⟨rfl, XE.out⟩
        · have hsI : (64 : Int) < (n : Int) + (m : Int) := by omega
          clear hs
          go_enter Try.func6, Try.ntmps6
          go_wp2_with fail
          refine Calls.mono H1.out ?_
          rintro e w1 ⟨rfl, b1⟩
          have X1 := hid b1
          clear b1
          go_wp2_with fail
          refine Calls.mono (H2.out _ X1.out) ?_
          rintro e w2 ⟨rfl, hx⟩
          replace X1 := hid (X1.out.then hx)
          clear hx
          go_wp2_with fail
          refine Calls.mono (hybridBegun_any _) ?_
          rintro e w4 ⟨rfl, hx⟩
          replace X1 := hid (X1.out.then hx)
          clear hx
          go_wp2
          go_returns
          exact ⟨rfl, X1.out⟩
      · have h8I : ¬ (n : Int) % 8 = 0 := by omega
        have h8b : ((n : Int) % 8 != 0) = true := by rw [bne_iff_ne]; omega
        have h8c : ((n : Int) % 8 == 0) = false := by rw [beq_eq_false_iff_ne]; omega
        clear h8
        go_enter Try.func6, Try.ntmps6
        go_wp2_with fail
        refine Calls.mono H1.out ?_
        rintro e w1 ⟨rfl, b1⟩
        have X1 := hid b1
        clear b1
        go_wp2_with fail
        refine Calls.mono (H2.out _ X1.out) ?_
        rintro e w2 ⟨rfl, hx⟩
        replace X1 := hid (X1.out.then hx)
        clear hx
        go_wp2_with fail
        refine Calls.mono (hybridBegun_any _) ?_
        rintro e w4 ⟨rfl, hx⟩
        replace X1 := hid (X1.out.then hx)
        clear hx
        go_wp2
        go_returns
        exact ⟨rfl, X1.out⟩
    · obtain ⟨SA, ea, hsa⟩ : ∃ SA ea, Hyb.wrt a wd = (SA, ea) := ⟨_, _, rfl⟩
      obtain ⟨SB, eb, hsb⟩ : ∃ SB eb, Hyb.wrt b wd = (SB, eb) := ⟨_, _, rfl⟩
      rw [hsa] at H1
      rw [hsb] at H2
      simp only at H1 H2
      rw [hsa] at h0
      rw [hsb] at h1
      obtain rfl : ea = 0 := h0
      simp only at h1
      have h3 : ((eb : Int) != 0) = true := by rw [bne_iff_ne]; omega
      have h4 : ((eb : Int) == 0) = false := by rw [beq_eq_false_iff_ne]; omega
      clear hsa hsb h1 ha hb hn hm hla hlb hca hcb hnl hml
      go_enter Try.func6, Try.ntmps6
      go_wp2_with fail
      refine Calls.mono H1.out ?_
      rintro e w1 ⟨rfl, b1⟩
      have X1 := hid b1
      clear b1
      go_wp2_with fail
      refine Calls.mono (H2.out _ X1.out) ?_
      rintro e w2 ⟨rfl, hx⟩
      replace X1 := hid (X1.out.then hx)
      clear hx
      go_wp2_with fail
      refine Calls.mono (hybridBegun_any _) ?_
      rintro e w4 ⟨rfl, hx⟩
      replace X1 := hid (X1.out.then hx)
      clear hx
      go_wp2
      go_returns
      exact ⟨rfl, X1.out⟩
  · obtain ⟨SA, ea, hsa⟩ : ∃ SA ea, Hyb.wrt a wd = (SA, ea) := ⟨_, _, rfl⟩
    obtain ⟨SB, eb, hsb⟩ : ∃ SB eb, Hyb.wrt b wd = (SB, eb) := ⟨_, _, rfl⟩
    rw [hsa] at H1
    rw [hsb] at H2
    simp only at H1 H2
    rw [hsa] at h0
    simp only at h0
    have h3 : ((ea : Int) != 0) = true := by rw [bne_iff_ne]; omega
    have h4 : ((ea : Int) == 0) = false := by rw [beq_eq_false_iff_ne]; omega
    clear hsa hsb ha hb hn hm hla hlb hca hcb h0 hnl hml
    go_enter Try.func6, Try.ntmps6
    go_wp2_with fail
    refine Calls.mono H1.out ?_
    rintro e w1 ⟨rfl, b1⟩
    have X1 := hid b1
    clear b1
    go_wp2_with fail
    refine Calls.mono (H2.out _ X1.out) ?_
    rintro e w2 ⟨rfl, hx⟩
    replace X1 := hid (X1.out.then hx)
    clear hx
    go_wp2_with fail
    refine Calls.mono (hybridBegun_any _) ?_
    rintro e w4 ⟨rfl, hx⟩
    replace X1 := hid (X1.out.then hx)
    clear hx
    go_wp2
    go_returns
    exact ⟨rfl, X1.out⟩
end Go.Proofs.Ytdblegdbfdhepaa
