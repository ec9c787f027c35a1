/- Files: FsRead: walk. -/
import Derived.Test.YtolhifnlahllnaaDoorFse
namespace Hy.Fs
theorem dck_rng {n : Int} {pre l : List Ent} (h : dck n pre l = 0) : ∀ x ∈ l, 0 ≤ x.2 ∧ x.2 < n ∧ Nm.nm x.1.data.toList = true := by
  induction l generalizing pre with
  | nil => intro x hx; simp at hx
  | cons y r ih =>
    simp only [dck] at h
    by_cases h1 : Nm.nm y.1.data.toList = false
    · rw [if_pos h1] at h; omega
    · rw [if_neg h1] at h
      by_cases h2 : notUp pre y = true
      · rw [if_pos h2] at h; omega
      · rw [if_neg h2] at h
        by_cases h3 : y.2 < 0 ∨ n ≤ y.2
        · rw [if_pos h3] at h; omega
        · rw [if_neg h3] at h
          by_cases h4 : nmd pre y.2 = true
          · rw [if_pos h4] at h; omega
          · rw [if_neg h4] at h
            intro x hx
            rcases List.mem_cons.1 hx with rfl | hx
            · exact ⟨by omega, by omega, by simpa using h1⟩
            · exact ih h x hx
theorem nof_mem (l : List Ent) (s : ByteArray) : nof l s = -1 ∨ ∃ x ∈ l, x.1 = s ∧ nof l s = x.2 := by
  induction l with
  | nil => exact .inl rfl
  | cons y r ih =>
    simp only [nof]
    by_cases h : y.1 = s
    · rw [if_pos h]; exact .inr ⟨y, by simp, h, rfl⟩
    · rw [if_neg h]
      rcases ih with h1 | ⟨x, hx, h1, h2⟩
      · exact .inl h1
      · exact .inr ⟨x, by simp [hx], h1, h2⟩
theorem fsck_zero {f : FSy} (h : fsck f = 0) : f.1.length ≤ 24 ∧ f.1.any big = false ∧ dirck f.1.length f.2.1 = 0 ∧ dirck f.1.length f.2.2 = 0 ∧ ∀ i, i < f.1.length → lone f i = false := by
  by_cases h1 : 24 < f.1.length
  · rw [fsck_many h1] at h; omega
  cases h2 : f.1.any big
  · by_cases h3 : dirck f.1.length f.2.1 = 0
    · by_cases h4 : dirck f.1.length f.2.2 = 0
      · refine ⟨by omega, rfl, h3, h4, fun i hi => ?_⟩
        cases h5 : lone f i
        · rfl
        · rw [fsck_lone h1 h2 h3 h4 i hi h5] at h; omega
      · rw [fsck_syn h1 h2 h3 h4] at h; exact absurd h h4
    · rw [fsck_dir h1 h2 h3] at h; exact absurd h h3
  · rw [fsck_big h1 h2] at h; omega
theorem dir_rng {n : Int} {l : List Ent} (h : dirck n l = 0) : ∀ x ∈ l, 0 ≤ x.2 ∧ x.2 < n ∧ Nm.nm x.1.data.toList = true := by unfold dirck at h; exact dck_rng h
theorem nof_rng {n : Int} {l : List Ent} (h : dirck n l = 0) (s : ByteArray) : nof l s = -1 ∨ (0 ≤ nof l s ∧ nof l s < n) := by
  rcases nof_mem l s with h1 | ⟨x, hx, _, h2⟩
  · exact .inl h1
  · obtain ⟨h3, h4, _⟩ := dir_rng h x hx
    exact .inr (by rw [h2]; exact ⟨h3, h4⟩)
theorem fsck_le (f : FSy) : fsck f ≤ 6 := by
  have h1 := dirck_le f.1.length f.2.1
  have h2 := dirck_le f.1.length f.2.2
  unfold fsck
  (repeat' split) <;> omega
/-- what is read of a file -/
@[irreducible] def rdf (f : FSy) (s : ByteArray) : ByteArray × Nat :=
  if fsck f ≠ 0 then (ByteArray.empty, fsck f) else if nof f.2.1 s < 0 then (ByteArray.empty, 5) else ((f.1.getD (nof f.2.1 s).toNat (ByteArray.empty, ByteArray.empty)).1, 0)
theorem rdf_bad {f : FSy} {s : ByteArray} (h : fsck f ≠ 0) : rdf f s = (ByteArray.empty, fsck f) := by unfold rdf; rw [if_pos h]
theorem rdf_none {f : FSy} {s : ByteArray} (h : fsck f = 0) (h2 : nof f.2.1 s < 0) : rdf f s = (ByteArray.empty, 5) := by unfold rdf; rw [if_neg (by omega), if_pos h2]
theorem rdf_ok {f : FSy} {s : ByteArray} (h : fsck f = 0) (k : Nat) (hk : k < f.1.length) (h2 : nof f.2.1 s = (k : Int)) : rdf f s = (f.1[k].1, 0) := by
  unfold rdf
  rw [if_neg (by omega), if_neg (by omega), h2, Int.toNat_natCast, List.getD_eq_getElem?_getD, List.getElem?_eq_getElem hk]; rfl
end Hy.Fs
namespace Go.Proofs.YtolhifnlahllnaaDoor
open Go.RowKit Hy
set_option maxHeartbeats 1600000 in
theorem fsRead_any (f : Fs.FSy) (s : ByteArray) (NA DA SA : Option Addr) (n nc m mc q qc : Nat) (w : World) (hn : f.1.length = n) (hN : Rd w NA (nds f.1)) (hm : f.2.1.length = m) (hD : Rd w DA (ens f.2.1)) (hq : f.2.2.length = q) (hS : Rd w SA (ens f.2.2))
    (hnl : n ≤ 140737488355328) (hml : m ≤ 140737488355328) (hql : q ≤ 140737488355328) (hd : ∀ x ∈ f.2.1, x.1.size ≤ 140737488355328) (hs : ∀ x ∈ f.2.2, x.1.size ≤ 140737488355328) :
    Calls Tryd.prog 15 #[.agg #[.slice NA n nc, .slice DA m mc, .slice SA q qc], .string s] w fun e w' => e = .returned (.tuple #[.string (Fs.rdf f s).1, .int .i64 ((Fs.rdf f s).2 : Nat)]) ∧ Ext w w' := by
  have HC := hid (fun wx (hx : Ext w wx) => fsCheck_any f NA DA SA n nc m mc q qc wx hn (hN.keep hx) hm (hD.keep hx) hq (hS.keep hx) hnl hml hql hd hs)
  have HO := hid (fun wx (hx : Ext w wx) => nodeOf_any f.2.1 s DA m mc wx hm (hD.keep hx) hml)
  have h7 := Fs.fsck_le f
  have XN := hid (Ext.new (ext_refl w) (.cells #[.slice NA n nc, .slice DA m mc, .slice SA q qc] 25))
  have BN := hid (Blk.new w 25 #[.slice NA n nc, .slice DA m mc, .slice SA q qc])
  by_cases h0 : Fs.fsck f = 0
  · have hng := Fs.nof_rng (Fs.fsck_zero h0).2.2.1 s
    rw [hn] at hng
    rw [h0] at HC
    rcases hng with hg | ⟨hg1, hg2⟩
    · have HV := hid (Fs.rdf_none h0 (s := s) (by omega))
      rw [hg] at HO
      clear hn hN hm hD hq hS hnl hml hql hd hs h7 h0 hg
      go_enter Tryd.func15, Tryd.ntmps15
      go_upto_region 1 with fail
      refine wp_gen (fun w' => Ext w w' ∧ Blk w' w.heap.size 25 #[.slice NA n nc, .slice DA m mc, .slice SA q qc]) ⟨XN.out, BN.out⟩ ?_
      rintro wz ⟨B, B1⟩
      have HB := hid B
      have HB1 := hid B1
      have a0 := B1.cell 0
      have a1 := B1.cell 1
      have a2 := B1.cell 2
      clear B B1
      go_wp2_with fail
      refine Calls.mono (HC.out _ HB.out) ?_
      rintro e w2 ⟨rfl, hx⟩
      replace HB := hid (HB.out.then hx)
      replace HB1 := hid (HB1.out.keep hx)
      replace a0 := HB1.out.cell 0
      replace a1 := HB1.out.cell 1
      replace a2 := HB1.out.cell 2
      clear hx
      go_wp2_with fail
      refine Calls.mono (HO.out _ HB.out) ?_
      rintro e w3 ⟨rfl, rfl⟩
      go_wp2
      go_returns
      exact ⟨by rw [HV.out]; rfl, HB.out⟩
    · obtain ⟨k, hk⟩ : ∃ k : Nat, Fs.nof f.2.1 s = (k : Int) := ⟨(Fs.nof f.2.1 s).toNat, by omega⟩
      have hkn : k < f.1.length := by omega
      have HV := hid (Fs.rdf_ok h0 k hkn hk)
      rw [hk] at HO
      obtain ⟨b1, o1, e1, l1, c1⟩ := hN.nodes k hkn
      have c0 := (c1 k hkn).1
      have hkI : (k : Int) < (n : Int) := by omega
      have he1 := hid e1
      generalize (f.1[k]'hkn).1 = t at *
      clear hn hN hm hD hq hS hnl hml hql hd hs h7 h0 hk hg1 hg2 c1 e1 hkn
      have e1 := he1.out
      subst e1
      go_enter Tryd.func15, Tryd.ntmps15
      go_upto_region 1 with fail
      refine wp_gen (fun w' => Ext w w' ∧ Blk w' w.heap.size 25 #[.slice (some ⟨b1, o1, none⟩) n nc, .slice DA m mc, .slice SA q qc]) ⟨XN.out, BN.out⟩ ?_
      rintro wz ⟨B, B1⟩
      have HB := hid B
      have HB1 := hid B1
      have a0 := B1.cell 0
      have a1 := B1.cell 1
      have a2 := B1.cell 2
      clear B B1
      go_wp2_with fail
      refine Calls.mono (HC.out _ HB.out) ?_
      rintro e w2 ⟨rfl, hx⟩
      replace HB := hid (HB.out.then hx)
      replace HB1 := hid (HB1.out.keep hx)
      replace a0 := HB1.out.cell 0
      replace a1 := HB1.out.cell 1
      replace a2 := HB1.out.cell 2
      clear hx
      go_wp2_with fail
      refine Calls.mono (HO.out _ HB.out) ?_
      rintro e w3 ⟨rfl, rfl⟩
      have d0 := ext_cell HB.out c0
      go_wp2
      go_returns
      exact ⟨by rw [HV.out]; rfl, HB.out⟩
  · have HV := hid (Fs.rdf_bad (s := s) h0)
    obtain ⟨E, hE⟩ : ∃ E, E = Fs.fsck f := ⟨_, rfl⟩
    rw [← hE] at HC HV h0 h7
    have e1 : ((E : Int) != 0) = true := by simp; omega
    clear hn hN hm hD hq hS hnl hml hql hd hs h7 h0 hE
    go_enter Tryd.func15, Tryd.ntmps15
    go_wp2_with fail
    refine Calls.mono (HC.out _ XN.out) ?_
    rintro e w2 ⟨rfl, hx⟩
    have HB := hid (XN.out.then hx)
    clear hx
    go_wp2
    go_returns
    exact ⟨by rw [HV.out]; rfl, HB.out⟩
end Go.Proofs.YtolhifnlahllnaaDoor
