/- Patch: Read: walk. -/
import Derived.Test.YtdblegdbfdhepaaPam
import Derived.Laws.Externs
namespace Hy.Pat
open Go
theorem chk_range (s : List UInt8) (many w : Int) : Bits.chk s many w ≤ 3 := by
  rcases Bits.chk_cases s many w with h | h | h | h <;> omega
theorem onS_bd (w : Nat) : ∀ (q : Nat) (M : List Nat) (last : Int) (s : List UInt8), (onS w q M last s).1 ≤ 5
  | 0, _, _, _ => Nat.zero_le _
  | q + 1, M, last, s => by
    rw [onS_succ]
    split
    · exact (onE_bd w M last s).1
    · exact onS_bd w q _ _ _
theorem fr_bd (s : List UInt8) (many : Nat) : (fr s many).1 ≤ 5 ∧ (fr s many).2.1 < 18446744073709551616 ∧ ((fr s many).1 = 0 → (fr s many).2.2.length = many ∧ ∀ x ∈ (fr s many).2.2, x < 18446744073709551616) := by
  obtain ⟨⟨a, k, e0⟩, hrd⟩ : ∃ p, Vary.rd s = p := ⟨_, rfl⟩
  have hb := Vary.rd_bd s
  rw [hrd] at hb
  simp only at hb
  by_cases he : e0 = 0
  · subst he
    rw [fr_ok hrd]
    match s.drop k with
    | [] => rw [fr1_short (by simp)]; simp
    | [_] => rw [fr1_short (by simp)]; simp
    | c :: d :: u =>
      rw [fr1_cons]
      by_cases h64 : 64 < c.toNat
      · rw [fr2_wide h64]; simp
      by_cases h5 : u.length < Bits.size many c.toNat
      · rw [fr2_short h64 h5]; simp
      by_cases h6 : Bits.chk (u.take (Bits.size many c.toNat)) many c.toNat = 0
      · rw [fr2_ok h64 h5 h6]
        have hU := Bits.unp_len (u.take (Bits.size many c.toNat)) many c.toNat
        have hUl : ∀ x ∈ Bits.unp (u.take (Bits.size many c.toNat)) many c.toNat, x < 18446744073709551616 := fun x hx => by
          have h1 := Bits.unp_lt _ _ _ x hx
          have h2 : 2 ^ c.toNat ≤ 2 ^ 64 := Nat.pow_le_pow_right (by decide) (by omega)
          omega
        generalize Bits.unp (u.take (Bits.size many c.toNat)) many c.toNat = U at *
        by_cases h7 : (onS c.toNat d.toNat U (-1) (u.drop (Bits.size many c.toNat))).1 = 0
        · by_cases h8 : (onS c.toNat d.toNat U (-1) (u.drop (Bits.size many c.toNat))).2.2 = []
          · rw [fr3_ok h7 h8]
            exact ⟨Nat.zero_le _, hb.2.1, fun _ => ⟨by show (onS _ _ _ _ _).2.1.length = many; rw [onS_len, hU], onS_lt _ _ _ _ _ hUl⟩⟩
          · rw [fr3_more h7 h8]; simp
        · rw [fr3_err h7]
          exact ⟨onS_bd _ _ _ _ _, by simp, fun h => absurd h h7⟩
      · rw [fr2_bad h64 h5 h6]
        have := chk_range (u.take (Bits.size many c.toNat)) many c.toNat
        exact ⟨by show Bits.chk _ _ _ ≤ 5; omega, by simp, fun h => absurd h h6⟩
  · rw [fr_vary hrd he]
    exact ⟨hb.2.2, by simp, fun h => absurd h he⟩
/-- so many numbers have base added -/
theorem add_part {b : Nat} {M : List Nat} {j : Nat} (hj : j < M.length) (h : ¬ M[j] + b < 18446744073709551616) : add b M = ([], 8) := by
  unfold add
  rw [if_neg]
  intro e
  have := List.all_eq_true.1 e M[j] (List.getElem_mem hj)
  exact h (of_decide_eq_true this)
theorem add_all {b : Nat} {M : List Nat} (h : ∀ i, i < M.length → (M.getD i 0) + b < 18446744073709551616) : add b M = (M.map (· + b), 0) := by
  unfold add
  rw [if_pos]
  refine List.all_eq_true.2 fun x hx => ?_
  obtain ⟨i, hi, rfl⟩ := List.mem_iff_getElem.1 hx
  have := h i hi
  rw [List.getD_eq_getElem?_getD, List.getElem?_eq_getElem hi] at this
  exact decide_eq_true this
end Hy.Pat
namespace Go.Proofs.Ytdblegdbfdhepaa
open Go.RowKit Hy
theorem add64_run (x y : Nat) (hx : x < 18446744073709551616) (hy : y < 18446744073709551616) (w : World) :
    (callFunc 72 #[.int .u64 (x : Int), .int .u64 (y : Int), .int .u64 0]).run Try.prog w = .ok (.value (.tuple #[.int .u64 (((x + y) % 18446744073709551616 : Nat) : Int), .int .u64 (((x + y) / 18446744073709551616 : Nat) : Int)])) w := by
  rw [run_callFunc_extern Try.func72 (by kernel_rfl) (by kernel_rfl) (by kernel_rfl) (e := add64Entry) (by kernel_rfl), run_add64 x y 0 (by omega) (by omega) (by omega) (by omega)]
  simp only [Result.andThen]
  congr 5 <;> omega
set_option maxRecDepth 100000 in
set_option maxHeartbeats 1600000 in
theorem pRead_any (s : ByteArray) (many : Int) (w : World) (hs : s.size ≤ 281474976710656) :
    Calls Try.prog 35 #[.string s, .int .i64 many] w (NumsOut (Pat.rdP s.data.toList many).1 (Pat.rdP s.data.toList many).2 w) := by
  by_cases hneg : many < 0
  · rw [Pat.rdP_neg hneg]
    go_enter Try.func35, Try.ntmps35
    go_wp2
    go_returns
    exact ⟨none, 0, rfl, fun h => by simp [u64s] at h, ext_refl _⟩
  by_cases hmany : 64 < many
  · rw [Pat.rdP_many hmany]
    go_enter Try.func35, Try.ntmps35
    go_wp2
    go_returns
    exact ⟨none, 0, rfl, fun h => by simp [u64s] at h, ext_refl _⟩
  obtain ⟨m, rfl⟩ : ∃ m : Nat, many = (m : Int) := ⟨many.toNat, by omega⟩
  have hm : m ≤ 64 := by omega
  obtain ⟨L, hL⟩ : ∃ L, L = s.data.toList := ⟨_, rfl⟩
  have hLs : L.length = s.size := by rw [hL]; simp
  rw [← hL]
  have HP := hid (show PRd w.heap.size (w.alloc (.cells #[.string s] 76)) L by
    unfold PRd; rw [hL, str_self]; exact Blk.new w _ _)
  have HFC := hid (pFrame_any L m w.heap.size _ HP.out (by omega) hm)
  have hbd := Pat.fr_bd L m
  unfold PFr at HFC
  by_cases he : (Pat.fr L m).1 = 0
  · rw [Pat.rdP_ok hm he]
    obtain ⟨⟨E, b, M⟩, hF⟩ : ∃ y, Pat.fr L m = y := ⟨_, rfl⟩
    rw [hF] at HFC he hbd ⊢
    simp only at he
    subst he
    simp only at hbd HFC ⊢
    obtain ⟨_, hbl, hMM⟩ := hbd
    obtain ⟨hMl, hMx⟩ := hMM trivial
    have hbI : (b : Int) ≤ 18446744073709551615 := by omega
    have hmI : (m : Int) ≤ 64 := by omega
    have HML := hid hMl
    have HMX := hid hMx
    have HBL := hid hbl
    clear hL hLs hF hMl hMx hMM hbl hneg hmany hs hm
    go_enter Try.func35, Try.ntmps35
    go_wp2_with fail
    refine Calls.mono HFC.out ?_
    rintro e w1 ⟨b', V0, nv0, cv0, rfl, hx, hok⟩
    obtain ⟨rfl, hown⟩ := hok trivial
    have HX := hid (Below.trans ((ext_refl w).new (.cells #[.string s] 76)) hx)
    have HO := hid (own_lower hown (show w.heap.size ≤ _ by simp; omega))
    have HOS := hid (fun k (e : (Value.slice V0 nv0 cv0).ownBlock = some k) => hown.lt k e)
    clear hx hok hown
    obtain ⟨V, cv, hv, _⟩ := Rd.owned HO.out
    obtain ⟨rfl, rfl, rfl⟩ : V = V0 ∧ m = nv0 ∧ cv = cv0 := by injection hv with h1 h2 h3; exact ⟨h1.symm, h2.symm, h3.symm⟩
    clear hv
    go_wp2
    go_loopw [32] (fun c wr => ∃ (j : Nat), j ≤ m ∧ c = .int .i64 j ∧ Hid (∀ i, i < j → (M.getD i 0) + b' < 18446744073709551616) ∧ Blk wr w1.heap.size 67 #[.int .u64 (b' : Int), .slice V m cv] ∧ Hid (wr.ownsRow w.heap.size 33 1 (.slice V m cv) m (u64s ((M.take j).map (· + b') ++ M.drop j))) ∧ Hid (Ext w wr)) (fun c _ => m - (intOf c).toNat)
    case atStart => exact ⟨0, Nat.zero_le _, rfl, hid (fun i h => absurd h (Nat.not_lt_zero _)), Blk.new _ _ _, hid (by simpa using own_ext HO.out ((ext_refl _).new _)), hid (Ext.new HX.out _)⟩
    case round =>
      obtain ⟨j, hj, rfl, HP, B, HO2, HX2⟩ := hrel
      have HB := hid B
      have hc0 := B.cell 0
      have hc1 := B.cell 1
      clear B
      by_cases hlt : j < m
      · have hjI : (j : Int) < (m : Int) := by omega
        have hjl : j < M.length := by rw [HML.out]; exact hlt
        have hxx := HMX.out M[j] (List.getElem_mem hjl)
        have HDJ := hid (show M.getD j 0 = M[j] by rw [List.getD_eq_getElem?_getD, List.getElem?_eq_getElem hjl]; rfl)
        have hcell : (u64s ((M.take j).map (· + b') ++ M.drop j))[j]? = some (.int .u64 ((M[j] : Nat) : Int)) := by
          unfold u64s
          rw [List.getElem?_map, List.getElem?_append_right (by simp; omega)]
          simp [Nat.min_eq_left (Nat.le_of_lt hjl), List.getElem?_eq_getElem hjl]
        have HSET := hid (fun z : Nat => show (u64s ((M.take j).map (· + b') ++ M.drop j)).set j (.int .u64 (z : Int)) = u64s ((M.take j).map (· + b') ++ z :: M.drop (j + 1)) by
          rw [u64s_set, List.set_append_right _ _ (by simp; omega), List.length_map, List.length_take, Nat.min_eq_left (Nat.le_of_lt hjl), Nat.sub_self, List.drop_eq_getElem_cons hjl]; rfl)
        have HTK := hid (show (M.take (j + 1)).map (· + b') ++ M.drop (j + 1) = (M.take j).map (· + b') ++ (M[j] + b') :: M.drop (j + 1) by rw [List.take_succ_eq_append_getElem hjl, List.map_append, List.append_assoc]; rfl)
        have HOV := hid (fun h => Pat.add_part (b := b') hjl h)
        obtain ⟨g3, c3, hv3, _, hg3, cur, hb3⟩ := own_base HO2.out (by omega)
        cases hv3
        have d0 := HO2.out.cellAt j (by omega)
        have f0 := HO2.out.frozenAt j
        rw [hcell] at d0
        have HGN := hid (show g3 ≠ w1.heap.size from fun e => by
          have := (HOS.out g3 rfl).2; omega)
        have hA := fun wx => add64_run b' M[j] HBL.out hxx wx
        generalize M[j] = x at *
        have hxI : (x : Int) ≤ 18446744073709551615 := by omega
        by_cases hov : x + b' < 18446744073709551616
        · rw [Nat.mod_eq_of_lt (show b' + x < 18446744073709551616 by omega), Nat.div_eq_of_lt (show b' + x < 18446744073709551616 by omega)] at hA
          obtain ⟨z, hz⟩ : ∃ z, z = b' + x := ⟨_, rfl⟩
          rw [← hz] at hA
          have hzI : (z : Int) ≤ 18446744073709551615 := by omega
          have HZ := hid hz
          have HOVL := hid hov
          clear hcell hxx hjl hz hov hb3 hg3
          go_wp2_with (simp only [hA])
          go_roundw
          case rel => exact ⟨j + 1, by omega, by go_num, hid (fun i hi => by
              rcases Nat.lt_or_ge i j with h | h
              · exact HP.out i h
              · obtain rfl : i = j := by omega
                rw [HDJ.out]; exact HOVL.out), HB.out.far (p := ⟨g3, j, none⟩) HGN.out.symm _, hid (by rw [HTK.out]; have := own_set HO2.out rfl j (.int .u64 (z : Int)); rw [HSET.out] at this; rw [show x + b' = z by have := HZ.out; omega]; exact this), hid (HX2.out.put (p := ⟨g3, j, none⟩) (HO2.out.lt g3 rfl).1 _)⟩
          case measure => simp [intOf]; omega
        · have hdv : (b' + x) / 18446744073709551616 = 1 := by omega
          rw [hdv] at hA
          obtain ⟨z, hz⟩ : ∃ z, z = (b' + x) % 18446744073709551616 := ⟨_, rfl⟩
          rw [← hz] at hA
          have hzI : (z : Int) ≤ 18446744073709551615 := by omega
          have HAD := hid (HOV.out hov)
          clear hcell hxx hjl hz hov hb3 hg3 hdv
          go_wp2_with (simp only [hA])
          go_returns
          rw [HAD.out]
          exact ⟨none, 0, rfl, fun h => by simp [u64s] at h, HX2.out⟩
      · obtain rfl : j = m := by omega
        have HAD := hid (Pat.add_all (b := b') (M := M) (fun i hi => HP.out i (by rw [HML.out] at hi; exact hi)))
        rw [List.take_of_length_le (by rw [HML.out]; exact Nat.le_refl _), List.drop_eq_nil_of_le (by rw [HML.out]; exact Nat.le_refl _), List.append_nil] at HO2
        go_wp2
        go_returns
        rw [HAD.out]
        obtain ⟨_, _, e, hrd, _⟩ := Rd.owned HO2.out
        cases e
        exact ⟨V, cv, by simp only [List.length_map, HML.out]; rfl, hrd, HX2.out⟩
  · rw [Pat.rdP_err hm he]
    have hEb := hbd.1
    obtain ⟨E, hE⟩ : ∃ E, E = (Pat.fr L m).1 := ⟨_, rfl⟩
    rw [← hE] at HFC he hEb ⊢
    have hEI : (E : Int) ≤ 5 := by omega
    have h7 : ((E : Int) != 0) = true := by rw [bne_iff_ne]; omega
    have h8 : ((E : Int) == 0) = false := by rw [beq_eq_false_iff_ne]; omega
    have hmI : (m : Int) ≤ 64 := by omega
    clear hL hLs hE he hneg hmany hs hm hbd
    go_enter Try.func35, Try.ntmps35
    go_wp2_with fail
    refine Calls.mono HFC.out ?_
    rintro e w1 ⟨b', V0, nv0, cv0, rfl, hx, _⟩
    have HX := hid (Below.trans ((ext_refl w).new (.cells #[.string s] 76)) hx)
    clear hx
    go_wp2
    go_returns
    exact ⟨none, 0, rfl, fun h => by simp [u64s] at h, Ext.new HX.out _⟩
end Go.Proofs.Ytdblegdbfdhepaa
