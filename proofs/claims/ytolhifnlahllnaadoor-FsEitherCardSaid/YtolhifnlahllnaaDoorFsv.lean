/- Files: Delete: walk (printed by gen_del.py). -/
import Derived.Test.YtolhifnlahllnaaDoorFst
import Derived.Test.YtolhifnlahllnaaDoorSli
import Derived.Deep.RegionLaw
namespace Go.Proofs.YtolhifnlahllnaaDoor
open Go.RowKit Hy
set_option maxHeartbeats 3200000 in
set_option maxRecDepth 100000 in
theorem deleteE_any (l : List Ent) (A : Option Addr) (n c i base : Nat) (x : Int) (w : World) (hx : x = (i : Int) + 1) (j : Nat) (hj : j + 1 = n) (hn : l.length = n) (ho : w.ownsRow base 47 2 (.slice A n c) n (ens l)) (hi : i < n) (hnl : n ≤ 1000000) :
    Calls Tryd.prog 95 #[.slice A n c, .int .i64 (i : Int), .int .i64 x] w fun e w' => e = .returned (.slice A j c) ∧ w'.ownsRow base 47 2 (.slice A j c) j (ens (l.take i ++ l.drop (i + 1))) ∧ w.grownBy w' (Value.slice A n c).ownBlock := by
  obtain ⟨g, rfl⟩ : ∃ g, A = some ⟨g, 0, none⟩ := own_some ho (by omega)
  obtain ⟨hr, _, hnc⟩ := own_rd ho
  obtain ⟨_, hcm, _⟩ := own_cur ho
  obtain ⟨k, hk⟩ : ∃ k, k = i + 1 := ⟨_, rfl⟩
  obtain rfl : x = (k : Int) := by omega
  rw [← hk]
  have HJ := hid hj
  have hcI : (c : Int) ≤ 9223372036854775807 := by unfold maxLen at hcm; omega
  have HPRE := hid (show w.drew.ownsRow base 47 2 (.slice (some ⟨g, 0, none⟩) i c) i (ens (l.take i)) by
    have h := own_take (k := i) (own_ext ho (ext_refl w).draw) (by omega)
    rw [show (ens l).take (i * 2) = ens (l.take i) from flat_take (f := ent2) (m := 2) (fun _ => rfl) l i] at h
    exact h)
  have HSRC := hid (show Src Tryd.prog 2 23 (.slice (slF (some ⟨g, 0, none⟩) k c 2) (n - k) (c - k)) (n - k) (ens (l.drop k)) w.drew from
    Src.rd Tryd.underlying23 _ _ _ _ (by rw [ens_len, List.length_drop, hn]) (Rd.from (f := ent2) (m := 2) (fun _ => rfl) (hr.keep (ext_refl w).draw) k c (by omega)) (ens_one _) (fun h => by unfold slF at h; split at h <;> cases h))
  have HAPP := hid (show ens (l.take i) ++ ens (l.drop k) = ens (l.take i ++ l.drop k) by simp only [ens, List.flatMap_append])
  have HJK := hid (show i + (n - k) = j by omega)
  have HZ := hid (show ∀ w, (zeroValue 47).run Tryd.prog w = .ok (.agg #[.string ⟨#[]⟩, .int .i64 0]) w from fun w => by kernel_rfl)
  have HG := hid (show Ext w w.drew from (ext_refl w).draw)
  have hsl1 := fun wx : World => sl_to (P := Tryd.prog) (t := 23) (e := 47) (m := 2) Tryd.underlying23 (by kernel_rfl) (some ⟨g, 0, none⟩) n c .i64 i (by omega) wx
  have hsl2 := fun wx : World => sl_from (P := Tryd.prog) (t := 23) (e := 47) (m := 2) Tryd.underlying23 (by kernel_rfl) (some ⟨g, 0, none⟩) n c .i64 k (by omega) wx
  have hsl3 := fun wx : World => sl_mid (P := Tryd.prog) (t := 23) (e := 47) (m := 2) Tryd.underlying23 (by kernel_rfl) (some ⟨g, 0, none⟩) j c .i64 .i64 j n (by omega) (by omega) wx
  rw [show slF (some ⟨g, 0, none⟩) j c 2 = some ⟨g, j * 2, none⟩ by unfold slF; rw [if_neg (by omega)]; show some ((Addr.mk g 0 none).add (j * 2)) = _; rw [add_none, Nat.zero_add]] at hsl3
  rw [show n - j = 1 by omega] at hsl3
  have hni : ¬ n = i := by omega
  have hikI : (i : Int) ≤ (k : Int) := by omega
  have hknI : (k : Int) ≤ (n : Int) := by omega
  have hncI : (n : Int) ≤ (c : Int) := by omega
  have hne : ((i : Int) == (k : Int)) = false := beq_eq_false_iff_ne.2 (by omega)
  have hroom := hid (show i + (n - k) ≤ c by omega)
  have hjc := hid (show j + 1 ≤ c by omega)
  clear hr hn ho hi hnl hk hj hnc hcm hx
  go_enter Tryd.func95, Tryd.ntmps95
  go_wp2_with fail
  go_region_law (go_loud (refine step_app_room rfl (.tmp 22) (.tmp 25) rowEn rfl g c i (ens (l.take i)) (by simp [Act.eval, Act.put]) HPRE.out (.slice (slF (some ⟨g, 0, none⟩) k c 2) (n - k) (c - k)) (n - k) (ens (l.drop k)) (by simp [Act.eval, Act.put]) HSRC.out hroom.out ?_; intro w4 hown hgrow))
  have HOW := hown.out
  have HGR := hgrow
  rw [HJK.out, HAPP.out] at HOW
  rw [HJK.out]
  clear hown hgrow
  obtain ⟨w5, hclr, own5, grow5⟩ := own_cleared 23 47 (.agg #[.string ⟨#[]⟩, .int .i64 0]) 2 Tryd.underlying23 HZ.out rfl (by decide) (q := c - j) HOW (show 0 < 1 by decide) hjc.out
  have HO5 := hid own5
  have HG5 := hid grow5
  have hjnI : (j : Int) ≤ (n : Int) := by have := HJ.out; omega
  clear own5 grow5
  go_wp2
  go_returns
  refine ⟨rfl, HO5.out, ?_⟩
  exact grown_then (grown_ext (ext_refl w).draw) (grown_then HGR.out HG5.out)
end Go.Proofs.YtolhifnlahllnaaDoor
