/- Names: table.Name, NameCheck: walks. -/
import Derived.Test.YtolhifnlahllnaaGreatDoorGen
import Derived.Test.YtolhifnlahllnaaGreatDoorShelf
import Derived.Shelf.Strings.SlTrimAscii
namespace Hy.Nm
open Go
def az (x : UInt8) : Bool := decide (97 ≤ x.toNat) && decide (x.toNat ≤ 122)
def az26 : List UInt8 := [97, 98, 99, 100, 101, 102, 103, 104, 105, 106, 107, 108, 109, 110, 111, 112, 113, 114, 115, 116, 117, 118, 119, 120, 121, 122]
/-- a name: one to twelve letters -/
@[irreducible] def nm (l : List UInt8) : Bool := decide (1 ≤ l.length ∧ l.length ≤ 12) && l.all az
theorem az_all : ∀ n : Fin 256, az26.contains (UInt8.ofNat n.val) = az (UInt8.ofNat n.val) := by decide +kernel
theorem az_in (x : UInt8) : az26.contains x = az x := by
  have h := az_all ⟨x.toNat, x.toNat_lt⟩
  simpa using h
theorem in_drop {p : UInt8 → Bool} {l : List UInt8} {x : UInt8} (h : x ∈ l) (hp : p x = false) : x ∈ l.dropWhile p := by
  induction l with
  | nil => cases h
  | cons y l ih =>
    cases hy : p y
    · rw [List.dropWhile_cons_of_neg (by rw [hy]; decide)]; exact h
    · rw [List.dropWhile_cons_of_pos hy]
      rcases List.mem_cons.1 h with rfl | h
      · rw [hp] at hy; cases hy
      · exact ih h
theorem drop_all {p : UInt8 → Bool} {l : List UInt8} (h : ∀ x ∈ l, p x = true) : l.dropWhile p = [] := by
  induction l with
  | nil => rfl
  | cons y l ih => rw [List.dropWhile_cons_of_pos (h y (by simp))]; exact ih fun x hx => h x (by simp [hx])
theorem trim_nil (l : List UInt8) : Lib.trimS l az26 = [] ↔ l.all az = true := by
  unfold Lib.trimS Lib.trimLeftS Lib.trimRightS
  constructor
  · intro h
    rw [List.all_eq_true]
    intro x hx
    cases hp : az x
    · have h1 : az26.contains x = false := by rw [az_in]; exact hp
      have h2 := in_drop (p := fun x => az26.contains x) (List.mem_reverse.2 hx) h1
      have h3 := in_drop (p := fun x => az26.contains x) (List.mem_reverse.2 h2) h1
      rw [h] at h3; cases h3
    · rfl
  · intro h
    rw [List.all_eq_true] at h
    have h1 : l.reverse.dropWhile (fun x => az26.contains x) = [] := drop_all fun x hx => by
      rw [az_in]; exact h x (List.mem_reverse.1 hx)
    rw [h1]; rfl
theorem nm_of {l : List UInt8} (h1 : 1 ≤ l.length) (h2 : l.length ≤ 12) : nm l = l.all az := by unfold nm; rw [decide_eq_true ⟨h1, h2⟩, Bool.true_and]
theorem nm_no {l : List UInt8} (h : l.length = 0 ∨ 12 < l.length) : nm l = false := by unfold nm; rw [decide_eq_false (by omega), Bool.false_and]
theorem nm_le {l : List UInt8} (h : nm l = true) : 1 ≤ l.length ∧ l.length ≤ 12 := by
  unfold nm at h
  rw [Bool.and_eq_true] at h
  exact of_decide_eq_true h.1
end Hy.Nm
namespace Go.Proofs.YtolhifnlahllnaaGreatDoor
open Go.RowKit Hy
theorem trimAz_any (s : ByteArray) (w : World) (hs : s.size ≤ 9223372036854775807) :
    Calls Tryz.prog 90 #[.string s, .string ⟨#[97, 98, 99, 100, 101, 102, 103, 104, 105, 106, 107, 108, 109, 110, 111, 112, 113, 114, 115, 116, 117, 118, 119, 120, 121, 122]⟩] w fun e w' => e = .returned (.string ⟨(Lib.trimS s.data.toList Nm.az26).toArray⟩) ∧ Ext w w' :=
  Any.strings_Trim_laid Tryz.lays160 (by kernel_rfl) s ⟨Nm.az26.toArray⟩ w hs (by decide) (ascii_of_all (by decide))
theorem name_any (s : ByteArray) (w : World) (hs : s.size ≤ 140737488355328) : Calls Tryz.prog 68 #[.string s] w fun e w' => e = .returned (.bool (Nm.nm s.data.toList)) ∧ Ext w w' := by
  have hlen : s.data.toList.length = s.size := Array.length_toList
  have HT := hid (trimAz_any s w (by omega))
  by_cases h0 : s.size = 0
  · obtain rfl : s = ⟨#[]⟩ := ByteArray.ext (Array.eq_empty_of_size_eq_zero h0)
    rw [Nm.nm_no (.inl rfl)]
    clear hlen hs h0 HT
    go_enter Tryz.func68, Tryz.ntmps68
    go_wp2
    go_returns
    exact ⟨rfl, ext_refl _⟩
  have hne : s.toList.isEmpty = false := by
    rw [ByteArray.toList_eq]
    cases hq : s.data.toList with
    | nil => rw [hq] at hlen; simp at hlen; omega
    | cons a b => rfl
  by_cases h12 : 12 < s.size
  · rw [Nm.nm_no (.inr (by omega))]
    have hI : (12 : Int) < (s.size : Int) := by omega
    clear hlen hs h0 HT h12
    go_enter Tryz.func68, Tryz.ntmps68
    go_wp2
    go_returns
    exact ⟨rfl, ext_refl _⟩
  rw [Nm.nm_of (by omega) (by omega)]
  have hI : (s.size : Int) ≤ 12 := by omega
  obtain ⟨R, hR⟩ : ∃ R : ByteArray, R = ⟨(Lib.trimS s.data.toList Nm.az26).toArray⟩ := ⟨_, rfl⟩
  rw [← hR] at HT
  have hemp : R.toList.isEmpty = s.data.toList.all Nm.az := by
    have h1 := Nm.trim_nil s.data.toList
    rw [hR, ByteArray.toList_mk]
    cases hq : Lib.trimS s.data.toList Nm.az26 with
    | nil => rw [h1.1 hq]; rfl
    | cons a b =>
      cases ha : s.data.toList.all Nm.az
      · rfl
      · rw [h1.2 ha] at hq; cases hq
  generalize s.data.toList.all Nm.az = q at *
  clear hR hlen hs h0 h12
  go_enter Tryz.func68, Tryz.ntmps68
  go_wp2_with (go_at_call 90; go_loud (refine HT.out.mono ?_; rintro e w2 ⟨rfl, x2⟩; have X2 := hid x2; clear x2))
  all_goals go_returns
  all_goals exact ⟨rfl, X2.out⟩
end Go.Proofs.YtolhifnlahllnaaGreatDoor
