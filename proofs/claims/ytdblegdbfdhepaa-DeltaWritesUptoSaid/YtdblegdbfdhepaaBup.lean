/- Bits: Unpack, Get: walks. -/
import Derived.Test.YtdblegdbfdhepaaBck
namespace Go.Proofs.Ytdblegdbfdhepaa
open Go.RowKit Hy
theorem size_bits (many w i : Nat) (hi : i < many) : i * w + w ≤ 8 * Bits.size many w := by
  have h1 : (i + 1) * w ≤ many * w := Nat.mul_le_mul_right _ hi
  rw [Nat.add_mul, Nat.one_mul] at h1
  unfold Bits.size
  generalize many * w = x at *
  omega
theorem size_le (many w : Nat) (h1 : many ≤ 64) (h2 : w ≤ 64) : Bits.size many w ≤ 512 := by
  have : many * w ≤ 64 * 64 := Nat.mul_le_mul h1 h2
  unfold Bits.size; omega
/-- numbers in new memory of its own, and an error -/
def NumsOwn (t : TypeId) (l : List Nat) (err : Nat) (w : World) (e : Ending) (w' : World) : Prop := ∃ v, e = .returned (.tuple #[v, .int .i64 err]) ∧ w'.ownsRow w.heap.size t 1 v l.length (u64s l) ∧ Ext w w'
theorem NumsOwn.out {t : TypeId} {l : List Nat} {err : Nat} {w w' : World} {e : Ending} (h : NumsOwn t l err w e w') : NumsOut l err w e w' := by
  obtain ⟨v, rfl, hown, hx⟩ := h
  obtain ⟨A, cap, rfl, hrd, _⟩ := Rd.owned hown
  exact ⟨A, cap, rfl, hrd, hx⟩
set_option maxHeartbeats 800000 in
theorem unpack_own (s : ByteArray) (many wd : Int) (w : World) :
    Calls Try.prog 94 #[.string s, .int .i64 many, .int .i64 wd] w (NumsOwn 33 (Bits.up s.data.toList many wd) (Bits.chk s.data.toList many wd) w) := by
  have C := fun wx : World => hid (check_any s many wd wx)
  obtain ⟨er, he⟩ : ∃ er, er = Bits.chk s.data.toList many wd := ⟨_, rfl⟩
  rw [← he] at C ⊢
  by_cases h0 : er = 0
  · subst h0
    obtain ⟨c1, c2, c3, c4, c5, c6⟩ := Bits.chk_ok he.symm
    have HU := hid (Bits.up_ok _ _ _ he.symm)
    obtain ⟨m, rfl⟩ := Int.eq_ofNat_of_zero_le c3
    obtain ⟨k, rfl⟩ := Int.eq_ofNat_of_zero_le c1
    rw [Int.toNat_natCast, Int.toNat_natCast] at HU c5 c6
    rw [Array.length_toList] at c5
    have c5' : s.size = Bits.size m k := c5
    have hmI : (m : Int) ≤ 64 := c4
    have hkI : (k : Int) ≤ 64 := c2
    have hsz := size_le m k (by omega) (by omega)
    have HB := hid (fun i (hi : i < m) => size_bits m k i hi)
    have CP := hid (fun (i : Nat) (hi : i < m) (wx : World) => pull_any s (i * k) k wx (by omega) (by have := HB.out i hi; omega) (by omega))
    have HSN := hid (fun i => Bits.unp_snoc s.data.toList i k)
    obtain ⟨L, hL⟩ : ∃ L, L = Bits.up s.data.toList (m : Int) (k : Int) := ⟨_, rfl⟩
    rw [← hL] at HU ⊢
    have HLen := hid (fun i => Bits.unp_len s.data.toList i k)
    clear he c1 c2 c3 c4 c5 c6 c5' hsz hL
    go_enter Try.func94, Try.ntmps94
    go_wp2_with (go_at_call 99; refine (C _).out.mono ?_; rintro e w2 ⟨rfl, rfl⟩)
    go_loopw [9, 10, 19] (fun v _ c wr => ∃ i : Nat, i ≤ m ∧ c = .int .i64 i ∧ wr.ownsRow w.heap.size 33 1 v (Bits.unp s.data.toList i k).length (u64s (Bits.unp s.data.toList i k)) ∧ Ext w wr) (fun _ _ c _ => m - (intOf c).toNat)
    case atStart => exact ⟨0, Nat.zero_le _, rfl, by rw [Bits.unp_eq]; exact World.ownsRow_nil _ _ _ _, ext_refl _⟩
    case round =>
      obtain ⟨i, hi, rfl, hown, X⟩ := hrel
      have HO := hid hown
      clear hown
      by_cases hlt : i < m
      · have HS := hid (HSN.out i)
        have C1 := fun wx : World => hid (CP.out i hlt wx)
        have hik : i * k ≤ 64 * 64 := Nat.mul_le_mul (by omega) (by omega)
        have hmul : (i : Int) * (k : Int) = ((i * k : Nat) : Int) := by simp
        have hx : Bits.le s.data.toList / 2 ^ (i * k) % 2 ^ k < 18446744073709551616 := by
          have h1 : Bits.le s.data.toList / 2 ^ (i * k) % 2 ^ k < 2 ^ k := Nat.mod_lt _ (Nat.two_pow_pos k)
          have h2 : 2 ^ k ≤ 2 ^ 64 := Nat.pow_le_pow_right (by decide) (by omega)
          omega
        have hxI : ((Bits.le s.data.toList / 2 ^ (i * k) % 2 ^ k : Nat) : Int) ≤ 18446744073709551615 := by omega
        have hl := HLen.out i
        generalize Bits.le s.data.toList / 2 ^ (i * k) % 2 ^ k = x at *
        generalize Bits.unp s.data.toList i k = L1 at *
        have hb : L1.length ≤ 64 := by omega
        generalize i * k = ik at *
        have hikI : (ik : Int) ≤ 4096 := by omega
        clear hx hl hik CP
        go_wp2_with (first
          | (go_at_call 100; refine (C1 _).out.mono ?_; rintro e w2 ⟨rfl, rfl⟩)
          | (at_builtin; refine wpList_app rfl (.tmp 22) (.tmp 29) rowU64 rfl _ L1.length _ rfl (HO.out.alloc _) _ 1 (u64s [x]) rfl (Src.rd Try.underlying22 _ 1 1 _ rfl (rd_lit rfl rfl) (u64s_one _) (fun h => by cases h)) (by unfold maxLen; omega) (by omega) (by have := X.size; simp; omega) ?_; intro v' w3 hown hgrow hat hbel))
        go_roundw
        case rel => exact ⟨i + 1, by omega, by go_num, by rw [HS.out, u64s_app, List.length_append]; exact hown, (X.new _).trans hbel⟩
        case measure => simp [intOf]; omega
      · obtain rfl : i = m := by omega
        obtain ⟨A, cap, rfl, hrd, _⟩ := Rd.owned HO.out
        clear hrd
        go_wp2
        go_returns
        exact ⟨_, rfl, by rw [HU.out]; exact HO.out, X⟩
  · have HU := hid (Bits.up_bad _ _ _ (show Bits.chk s.data.toList many wd ≠ 0 from fun h => h0 (he.trans h)))
    obtain ⟨L, hL⟩ : ∃ L, L = Bits.up s.data.toList many wd := ⟨_, rfl⟩
    rw [← hL] at HU ⊢
    have h3 : ((er : Int) != 0) = true := by rw [bne_iff_ne]; omega
    have h4 : ((er : Int) == 0) = false := by rw [beq_eq_false_iff_ne]; omega
    clear he h0 hL
    go_enter Try.func94, Try.ntmps94
    go_wp2_with (go_at_call 99; refine (C _).out.mono ?_; rintro e w2 ⟨rfl, rfl⟩)
    go_returns
    exact ⟨.slice none 0 0, rfl, by rw [HU.out]; exact World.ownsRow_nil _ _ _ _, ext_refl _⟩
theorem unpack_any (s : ByteArray) (many wd : Int) (w : World) :
    Calls Try.prog 94 #[.string s, .int .i64 many, .int .i64 wd] w (NumsOut (Bits.up s.data.toList many wd) (Bits.chk s.data.toList many wd) w) :=
  Calls.mono (unpack_own s many wd w) fun _ _ h => h.out
end Go.Proofs.Ytdblegdbfdhepaa
