/- Cells: Less, TextLess, CellLess: walks. -/
import Derived.Test.YtolhifnlahllnaaGreatDoorCeb
import Derived.Test.YtolhifnlahllnaaGreatDoorTls
namespace Go.Proofs.YtolhifnlahllnaaGreatDoor
open Go.RowKit Hy
theorem less_any (a b : Cel) (w : World) : Calls Tryz.prog 107 #[celV a, celV b] w fun e w' => e = .returned (.bool (Cel.less a b)) ∧ Ext w w' := by
  have HO := hid (order_any a b)
  have HL := hid (Cel.ord_less a b)
  generalize Cel.ord a b = R at *
  generalize Cel.less a b = L at *
  obtain ⟨k, n, s⟩ := a
  obtain ⟨k', n', s'⟩ := b
  simp only [celV] at HO
  have E := hid (Ext.new (Ext.new (ext_refl w) (.cells #[.int .i64 k, .int .u64 (n : Int), .string s] 42)) (.cells #[.int .i64 k', .int .u64 (n' : Int), .string s'] 42))
  go_enter Tryz.func107, Tryz.ntmps107
  go_wp2_with (go_at_call 112; go_loud (refine (HO.out _).mono ?_; rintro e w10 ⟨rfl, x10⟩; have X10 := hid x10; clear x10))
  go_returns
  exact ⟨by rw [← HL.out]; rfl, E.out.then X10.out⟩
end Go.Proofs.YtolhifnlahllnaaGreatDoor
