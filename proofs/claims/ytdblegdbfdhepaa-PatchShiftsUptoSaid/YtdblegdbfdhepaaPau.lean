/- Patch: the law Shifts: walk. -/
import Derived.Test.YtdblegdbfdhepaaPat
namespace Hy.Pat
open Go
theorem foldl_min_add (b : Nat) (r : List Nat) : ∀ x : Nat, (r.map (· + b)).foldl min (x + b) = r.foldl min x + b := by
  induction r with
  | nil => intro x; rfl
  | cons y r ih => intro x; rw [List.map_cons, List.foldl_cons, List.foldl_cons, show min (x + b) (y + b) = min x y + b by omega, ih]
theorem mor_add (b : Nat) (l : List Nat) : mor (l.map (· + b)) = mor l := by
  cases l with
  | nil => rfl
  | cons x r =>
    have e : bas ((x :: r).map (· + b)) = bas (x :: r) + b := foldl_min_add b r x
    unfold mor
    rw [e, List.map_map]
    refine List.map_congr_left fun y hy => ?_
    show y + b - (bas (x :: r) + b) = y - bas (x :: r)
    omega
theorem cos_add (b : Nat) (l : List Nat) (w : Int) : cos (l.map (· + b)) w = cos l w := by unfold cos; rw [mor_add, List.length_map]
end Hy.Pat
namespace Go.Proofs.Ytdblegdbfdhepaa
open Go.RowKit Hy
set_option maxRecDepth 100000 in
set_option maxHeartbeats 1600000 in
theorem patchShifts_walk (l : List Nat) (A : Option Addr) (n cap b : Nat) (wd : Int) (w : World) (hn : l.length = n) (hr : Rd w A (u64s l)) (hl : ∀ x ∈ l, x < 18446744073709551616) (hnl : n ≤ 1048576) (hb : b < 18446744073709551616) :
    Calls Try.prog 13 #[.slice A n cap, .int .u64 b, .int .i64 wd] w fun e w' => e = .returned (.bool true) ∧ Ext w w' := by
  have hnI : (n : Int) ≤ 1048576 := by omega
  have hbI : (b : Int) ≤ 18446744073709551615 := by omega
  have HC1 := hid (fun wx (hx : Ext w wx) => pCost_any l A n cap wd wx hn (hr.keep hx) hl (by omega))
  have HC2 := hid (fun (B : Option Addr) (c : Nat) (wx : World) (h : Rd wx B (u64s (l.map (· + b)))) (hm : ∀ x ∈ l.map (· + b), x < 18446744073709551616) => pCost_any (l.map (· + b)) B n c wd wx (by rw [List.length_map, hn]) h hm (by omega))
  rw [Pat.cos_add] at HC2
  obtain ⟨⟨cc, ce⟩, hcc⟩ : ∃ p, Pat.cos l wd = p := ⟨_, rfl⟩
  rw [hcc] at HC1 HC2
  have HR := hid hr
  have HN := hid hn
  have HL := hid hl
  have HNL := hid hnl
  clear hr hn hl hnl hb hcc
  go_enter Try.func13, Try.ntmps13
  go_wp2_with fail
  refine Calls.mono (patchBegun_any _) ?_
  rintro e w1 ⟨rfl, hx⟩
  have X1 := hid hx
  clear hx
  go_wp2
  go_loopw [7, 8] (fun v c wr => ∃ i : Nat, i ≤ n ∧ c = .int .i64 i ∧ Hid (∀ x ∈ (l.take i).map (· + b), x < 18446744073709551616) ∧ Hid (wr.ownsRow w.heap.size 33 1 v i (u64s ((l.take i).map (· + b)))) ∧ Hid (Ext w wr)) (fun _ c _ => n - (intOf c).toNat)
  case atStart => exact ⟨0, Nat.zero_le _, rfl, hid (by simp), hid (World.ownsRow_nil _ _ _ _), X1⟩
  case round =>
    obtain ⟨i, hi, rfl, HM, HO, HX⟩ := hrel
    obtain ⟨A3, c3, rfl, hrd3, _⟩ := Rd.owned HO.out
    by_cases hlt : i < n
    · have hltI : (i : Int) < (n : Int) := by omega
      obtain ⟨x, hx⟩ : ∃ x, l[i]? = some x := ⟨_, List.getElem?_eq_getElem (by rw [HN.out]; exact hlt)⟩
      have hxl := HL.out x (List.mem_of_getElem? hx)
      have hxI : (x : Int) ≤ 18446744073709551615 := by omega
      obtain ⟨b1, o1, e1, l1, c1⟩ := (HR.out.keep HX.out).num00 (by rw [HN.out]; omega)
      subst e1
      have d0 := c1 i x hx
      have HS := hid (show (l.take (i + 1)).map (· + b) = (l.take i).map (· + b) ++ [x + b] by rw [take_succ_snoc' hx]; simp)
      by_cases hov : x + b < 18446744073709551616
      · have g1 : (x : Int) ≤ 18446744073709551615 - (b : Int) := by omega
        obtain ⟨z, hz⟩ : ∃ z, z = x + b := ⟨_, rfl⟩
        rw [← hz] at HS
        have hsum : (x : Int) + (b : Int) = (z : Int) := by omega
        have hzI : (z : Int) ≤ 18446744073709551615 := by omega
        have HMN := hid (show ∀ y ∈ (l.take (i + 1)).map (· + b), y < 18446744073709551616 by
          rw [HS.out]; intro y hy
          rcases List.mem_append.1 hy with h | h
          · exact HM.out y h
          · rw [List.mem_singleton.1 h]; omega)
        have HI := hid (show i ≤ 1048576 by have := HNL.out; omega)
        generalize (l.take i).map (· + b) = L at *
        clear c1 hx hxl hov hz hrd3
        go_wp2_with (at_builtin; refine wpList_app rfl (.tmp 28) (.tmp 35) rowU64 rfl _ i _ rfl (own_ext HO.out ((ext_refl _).new _)) _ 1 (u64s [z]) rfl (Src.rd Try.underlying22 _ 1 1 _ rfl (rd_lit rfl rfl) (u64s_one _) (fun h => by cases h)) (by have := HI.out; unfold maxLen; omega) (by have := HI.out; omega) (by have := HX.out.size; simp; omega) ?_; intro v' w5 hown5 hgrow hat hbel; have HO5 := hid hown5; have HX5 := hid (Below.trans (Ext.new HX.out _) hbel); obtain ⟨A5, c5, rfl, _⟩ := Rd.owned HO5.out; clear hown5 hgrow hat hbel)
        go_roundw
        case rel => exact ⟨i + 1, by omega, by go_num, HMN, hid (by rw [HS.out, u64s_app]; exact HO5.out), HX5⟩
        case measure => simp [intOf] <;> omega
      · have g1 : 18446744073709551615 - (b : Int) < (x : Int) := by omega
        clear c1 hx hxl hov hrd3
        go_wp2
        go_returns
        exact ⟨rfl, HX.out⟩
    · obtain rfl : i = n := by omega
      have htk : l.take i = l := List.take_of_length_le (by rw [HN.out]; exact Nat.le_refl _)
      rw [htk] at HM hrd3
      have HRM := hid hrd3
      clear htk hrd3 hlt
      go_wp2_with fail
      refine Calls.mono (HC1.out _ HX.out) ?_
      rintro e w2 ⟨rfl, hx⟩
      have X2 := hid (HX.out.then hx)
      have HRM2 := hid (HRM.out.keep hx)
      clear hx
      go_wp2_with fail
      refine Calls.mono (HC2.out _ _ _ HRM2.out HM.out) ?_
      rintro e w3 ⟨rfl, hx⟩
      have X3 := hid (X2.out.then hx)
      clear hx
      go_wp2
      go_returns
      exact ⟨rfl, X3.out⟩
end Go.Proofs.Ytdblegdbfdhepaa
