/- Patch: the reader's bytes, number: walks. -/
import Derived.Test.YtdblegdbfdhepaaPaf
import Derived.Test.YtdblegdbfdhepaaVrd
namespace Go.Proofs.Ytdblegdbfdhepaa
open Go.RowKit Hy
/-- the reader lies in a block -/
def PRd (g : Nat) (w : World) (s : List UInt8) : Prop := Blk w g 76 #[.string ⟨s.toArray⟩]
set_option maxHeartbeats 400000 in
theorem pBytes_any (s : List UInt8) (n g : Nat) (w : World) (h : PRd g w s) (hn : n ≤ 9223372036854775806) :
    Calls Try.prog 93 #[.pointer (some ⟨g, 0, none⟩), .int .i64 n] w fun e w' =>
      (s.length < n ∧ e = .returned (.tuple #[.string ⟨#[]⟩, .int .i64 5]) ∧ PRd g w' s ∧ But g w w') ∨ (n ≤ s.length ∧ e = .returned (.tuple #[.string ⟨(s.take n).toArray⟩, .int .i64 0]) ∧ PRd g w' (s.drop n) ∧ But g w w') := by
  have HB := hid h
  obtain ⟨XX, hXX⟩ : ∃ XX : ByteArray, XX = ⟨s.toArray⟩ := ⟨_, rfl⟩
  have hXs : XX.size = s.length := by rw [hXX, str_size]
  have HXd := hid (show XX.data.toList = s by rw [hXX])
  unfold PRd at h
  rw [← hXX] at h
  have HBX := hid h
  have hc0 := h.cell 0
  have hf0 := h.frozen 0
  have hnI : (n : Int) ≤ 9223372036854775806 := by omega
  by_cases hs : s.length < n
  · have hsI : (XX.size : Int) < (n : Int) := by omega
    have HS := hid hs
    clear h hXX hs hn
    go_enter Try.func93, Try.ntmps93
    go_wp2
    go_returns
    exact .inl ⟨HS.out, rfl, HB.out, but_refl _ _⟩
  · have hsI : (n : Int) ≤ (XX.size : Int) := by omega
    have i2 := fun wx : World => run_to (P := Try.prog) (w := wx) Try.underlying9 XX .i64 n (by omega)
    have i3 := fun wx : World => run_from (P := Try.prog) (w := wx) Try.underlying9 XX .i64 n (by omega)
    rw [HXd.out] at i2 i3
    obtain ⟨XT, hXT⟩ : ∃ XT : ByteArray, XT = ⟨(s.take n).toArray⟩ := ⟨_, rfl⟩
    obtain ⟨XD, hXD⟩ : ∃ XD : ByteArray, XD = ⟨(s.drop n).toArray⟩ := ⟨_, rfl⟩
    rw [← hXT] at i2
    rw [← hXD] at i3
    have HXT := hid hXT
    have HXD := hid hXD
    have HS := hid (show n ≤ s.length by omega)
    clear h hXX hs hn hXT hXD
    go_enter Try.func93, Try.ntmps93
    go_wp2
    go_returns
    refine .inr ⟨HS.out, by rw [← HXT.out]; rfl, ?_, but_put_g _ _⟩
    unfold PRd
    rw [← HXD.out]
    exact (HBX.out.set 0 _).cast rfl
where but_put_g {g : Nat} (w : World) (u : Value) : But g w (w.setCell ⟨g, 0, none⟩ u) := (but_refl g w).put ⟨g, 0, none⟩ (.inl rfl) u
set_option maxHeartbeats 400000 in
theorem pNumber_any (s : List UInt8) (g : Nat) (w : World) (h : PRd g w s) (hs : s.length ≤ 281474976710656) (a k e0 : Nat) (hrd : Vary.rd s = (a, k, e0)) (hk : k ≤ s.length) :
    Calls Try.prog 92 #[.pointer (some ⟨g, 0, none⟩)] w fun e w' => e = .returned (.tuple #[.int .u64 a, .int .i64 e0]) ∧ PRd g w' (s.drop k) ∧ But g w w' := by
  obtain ⟨XX, hXX⟩ : ∃ XX : ByteArray, XX = ⟨s.toArray⟩ := ⟨_, rfl⟩
  have hXs : XX.size = s.length := by rw [hXX, str_size]
  have HXd := hid (show XX.data.toList = s by rw [hXX])
  unfold PRd at h
  rw [← hXX] at h
  have HBX := hid h
  have hc0 := h.cell 0
  have CR : ∀ wx : World, Hid (Calls Try.prog 79 #[.string XX] wx fun e' w' => e' = .returned (.tuple #[.int .u64 a, .int .i64 k, .int .i64 e0]) ∧ Ext wx w') := fun wx => by
    have := read_any XX wx
    rw [HXd.out, hrd] at this
    exact hid this
  have hT := fun wx : World => run_from (P := Try.prog) (w := wx) Try.underlying9 XX .i64 k (by omega)
  rw [HXd.out] at hT
  obtain ⟨XD, hXD⟩ : ∃ XD : ByteArray, XD = ⟨(s.drop k).toArray⟩ := ⟨_, rfl⟩
  rw [← hXD] at hT
  have HXD := hid hXD
  have hkI : (k : Int) ≤ 281474976710656 := by omega
  clear h hXX hXD hrd hk hs
  go_enter Try.func92, Try.ntmps92
  go_wp2_with fail
  refine Calls.mono (CR _).out ?_
  rintro e w1 ⟨rfl, hx⟩
  have HX := hid hx
  have HB1 := hid (HBX.out.keep hx)
  have hc0 := HB1.out.cell 0
  have hf0 := HB1.out.frozen 0
  clear hx
  go_wp2
  go_returns
  refine ⟨rfl, ?_, ((but_refl g w).ext HX.out).put ⟨g, 0, none⟩ (.inl rfl) _⟩
  unfold PRd
  rw [← HXD.out]
  exact (HB1.out.set 0 _).cast rfl
end Go.Proofs.Ytdblegdbfdhepaa
