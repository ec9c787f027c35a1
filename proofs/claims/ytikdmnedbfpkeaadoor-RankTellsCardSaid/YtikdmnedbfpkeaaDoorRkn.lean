/- The law RankTells: walk. -/
import Derived.Test.YtikdmnedbfpkeaaDoorRkm
namespace Go.Proofs.YtikdmnedbfpkeaaDoor
open Go.RowKit Hy
set_option maxHeartbeats 1600000 in
theorem rankTells_any (l : List Bool) (at' k : Int) (A : Option Addr) (n cap : Nat) (w : World) (hn : l.length = n) (hr : Rd w A (bls l)) (hcap : n ≤ cap) (hnl : n ≤ 140737488355328) (hk : k ≤ 9223372036854775807) (hT : TabOk w) :
    Calls Tryd.prog 3 #[.slice A n cap, .int .i64 at', .int .i64 k] w fun e w' => e = .returned (.bool true) ∧ Ext w w' := by
  have H1 := hid (rank_all l at' A n cap w hn hr hcap hnl)
  have H2 := hid (fun wx (hx : Ext w wx) => select_any l k A n cap wx hn (hr.keep hx) hnl hk (hT.keep hx))
  have H3 := hid (fun wx (hx : Ext w wx) => rankOf_any l at' A n cap wx hn (hr.keep hx) hnl)
  have H4 := hid (fun wx (hx : Ext w wx) => selectOf_any l k A n cap wx hn (hr.keep hx) hnl)
  have H5 := hid (fun wx (hx : Ext w wx) => rankBegun_any wx (hT.keep hx))
  have H6 := hid (fun wx (hx : Ext w wx) => count_any l A n cap wx hn (hr.keep hx) hnl)
  have H7 := hid (fun wx (hx : Ext w wx) => countOf_any l n A n cap wx hn (hr.keep hx) (Nat.le_refl _) hnl)
  rw [show l.take n = l from List.take_of_length_le (by omega)] at H7
  generalize Mrk.rankV l at' = V at *
  generalize Mrk.selV l k = U at *
  generalize l.count true = C at *
  obtain ⟨v1, v2⟩ := V
  obtain ⟨u1, u2⟩ := U
  have e1 : (v1 == v1) = true := by simp
  have e2 : (v2 == v2) = true := by simp
  have e3 : (u1 == u1) = true := by simp
  have e4 : (u2 == u2) = true := by simp
  have e5 : ((C : Int) == (C : Int)) = true := by simp
  clear hn hr hcap hnl hk hT
  go_enter Tryd.func3, Tryd.ntmps3
  go_wp2_with fail
  refine Calls.mono H1.out ?_
  rintro e w1 ⟨rfl, hx⟩
  have X1 := hid hx
  clear hx
  go_wp2_with fail
  refine Calls.mono (H2.out _ X1.out) ?_
  rintro e w2 ⟨rfl, hx⟩
  have X2 := hid (X1.out.then hx)
  clear hx
  go_wp2_with fail
  refine Calls.mono (H3.out _ X2.out) ?_
  rintro e _ ⟨rfl, rfl⟩
  go_wp2_with fail
  refine Calls.mono (H4.out _ X2.out) ?_
  rintro e _ ⟨rfl, rfl⟩
  go_wp2_with fail
  refine Calls.mono (H5.out _ X2.out) ?_
  rintro e w3 ⟨rfl, hx⟩
  have X3 := hid (X2.out.then hx)
  clear hx
  go_wp2_with fail
  refine Calls.mono (H6.out _ X3.out) ?_
  rintro e w4 ⟨rfl, hx⟩
  have X4 := hid (X3.out.then hx)
  clear hx
  go_wp2_with fail
  refine Calls.mono (H7.out _ X4.out) ?_
  rintro e _ ⟨rfl, rfl⟩
  go_wp2
  go_returns
  exact ⟨rfl, X4.out⟩
end Go.Proofs.YtikdmnedbfpkeaaDoor
