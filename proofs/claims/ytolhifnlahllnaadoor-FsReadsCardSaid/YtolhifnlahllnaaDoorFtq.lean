/- Files: the law FsReads: walk (printed by gen_ftq.py). -/
import Derived.Test.YtolhifnlahllnaaDoorFzf
namespace Hy.Fs
open Go
theorem e_size : (⟨#[]⟩ : ByteArray).size ≤ 140737488355328 := by decide
theorem emp_e : emp (⟨#[]⟩ : ByteArray) = true := by decide +kernel
theorem don_err {f : FSy} {o : Opn} (h : (don f o).2 ≠ 0) : (don f o).1 = fs0 := by
  by_cases h1 : fsck f = 0
  · by_cases h2 : opck o = 0
    · rw [don_raw h1 h2] at h ⊢
      unfold raw wrt at h ⊢
      (repeat' split at h) <;> first | (exact absurd rfl h) | skip
      all_goals simp_all
    · rw [don_form h1 h2]
  · rw [don_bad h1]
theorem reads_law {f : FSy} {s t : ByteArray} (h0 : (don f (1, s, ⟨#[]⟩, t)).2 = 0) :
    ∃ b, rdf (don f (1, s, ⟨#[]⟩, t)).1 s = (t, 0) ∧ don (don f (1, s, ⟨#[]⟩, t)).1 (4, s, ⟨#[]⟩, ⟨#[]⟩) = (b, 0) ∧ rdf b s = (ByteArray.empty, 5) ∧ ∀ o, o ≠ s → rdf (don f (1, s, ⟨#[]⟩, t)).1 o = rdf f o ∧ rdf b o = rdf f o := by
  obtain ⟨hf, ho, e, ha⟩ := don_ok h0
  have hk := opck_zero ho
  have hs := hk.2.2.1 (show (1 : Int) ≠ 5 by decide)
  have ht := hk.2.2.2.2
  have e2 : raw f (1, s, ⟨#[]⟩, t) = wrt f s t := by unfold raw; rw [if_pos rfl]
  rw [e] at ha h0 ⊢
  rw [e2] at ha h0 ⊢
  obtain ⟨_, ⟨u, hu⟩, hother⟩ := wrt_ok hf hs ht h0
  obtain ⟨a, hA⟩ : ∃ a, a = (wrt f s t).1 := ⟨_, rfl⟩
  rw [← hA] at ha hu hother ⊢
  have hn : ¬ nof a.2.1 s < 0 := fun h => by unfold lv at hu; rw [if_pos h] at hu; cases hu
  have ho4 : opck (4, s, ⟨#[]⟩, ⟨#[]⟩) = 0 := by
    unfold opck
    simp only [emp_e]
    rw [if_neg (by decide), if_neg (by simp; exact hs), if_neg (by decide)]
  have e4 : don a (4, s, ⟨#[]⟩, ⟨#[]⟩) = (swp (a.1, wout a.2.1 s, a.2.2), 0) := by
    rw [don_raw (ok_iff.2 ha) ho4]
    unfold raw
    simp only
    rw [if_neg (by decide), if_neg (by decide), if_neg hn, if_neg (by decide), if_neg (by decide)]
  have hb : Ok (swp (a.1, wout a.2.1 s, a.2.2)) := by
    have := (don_ok (f := a) (o := (4, s, ⟨#[]⟩, ⟨#[]⟩)) (by rw [e4])).2.2.2
    rwa [e4] at this
  have hg : Good a.1.length (wout a.2.1 s) := wout_good ha.dir s
  have hlv : ∀ o, lv (swp (a.1, wout a.2.1 s, a.2.2)) o = lv (a.1, wout a.2.1 s, a.2.2) o := fun o => lv_swp (f := (a.1, wout a.2.1 s, a.2.2)) hg o
  refine ⟨_, ?_, e4, ?_, fun o hne => ?_⟩
  · rw [lv_rdf ha, hu]
  · rw [lv_rdf hb, hlv]
    unfold lv
    simp only
    rw [nof_wout_same, if_pos (by decide)]
  · have h1 : rdf a o = rdf f o := by rw [lv_rdf ha, lv_rdf hf, hother o hne]
    refine ⟨h1, ?_⟩
    rw [lv_rdf hb, hlv, lv_rdf hf, ← hother o hne]
    unfold lv
    simp only
    rw [nof_wout_other ha.dir hne]
def gOps (s t : ByteArray) : List Opn := [(1, s, ⟨#[]⟩, t), (2, s, ⟨#[]⟩, ⟨#[]⟩), (5, ⟨#[]⟩, ⟨#[]⟩, ⟨#[]⟩)]
theorem good_law {f : FSy} {s t : ByteArray} (h0 : (ply f (gOps s t)).2 = 0) (m k : Nat) :
    ∃ b, crs (ply f (gOps s t)).1 m = (b, 0) ∧ rdf b s = (t, 0) ∧ crs b k = (b, 0) ∧ fsck b = 0 := by
  have hfc : fsck f = 0 := by
    by_cases h : fsck f = 0
    · exact h
    · rw [ply_bad h] at h0; exact absurd h0 h
  have hlen : ¬ 64 < (gOps s t).length := by simp [gOps]
  rw [ply_run hfc hlen] at h0 ⊢
  have hf := ok_iff.1 hfc
  -- the first op
  have h1 : (don f (1, s, ⟨#[]⟩, t)).2 = 0 := by
    unfold gOps run at h0
    by_cases h : (don f (1, s, ⟨#[]⟩, t)).2 = 0
    · exact h
    · rw [if_pos h] at h0; exact absurd h0 h
  have r1 : run f (gOps s t) = run (don f (1, s, ⟨#[]⟩, t)).1 [(2, s, ⟨#[]⟩, ⟨#[]⟩), (5, ⟨#[]⟩, ⟨#[]⟩, ⟨#[]⟩)] := by
    unfold gOps; rw [run, if_neg (by omega)]
  obtain ⟨_, ho, e, ha⟩ := don_ok h1
  have hk := opck_zero ho
  have e2 : raw f (1, s, ⟨#[]⟩, t) = wrt f s t := by unfold raw; rw [if_pos rfl]
  rw [r1, e, e2] at h0 ⊢
  rw [e, e2] at ha h1
  obtain ⟨_, ⟨u, hu⟩, _⟩ := wrt_ok hf (hk.2.2.1 (show (1 : Int) ≠ 5 by decide)) hk.2.2.2.2 h1
  obtain ⟨a, hA⟩ : ∃ a, a = (wrt f s t).1 := ⟨_, rfl⟩
  rw [← hA] at ha hu h0 ⊢
  have hn : ¬ nof a.2.1 s < 0 := fun h => by unfold lv at hu; rw [if_pos h] at hu; cases hu
  obtain ⟨j, hj⟩ : ∃ j : Nat, nof a.2.1 s = (j : Int) := ⟨(nof a.2.1 s).toNat, by omega⟩
  -- the second one
  have h2 : (don a (2, s, ⟨#[]⟩, ⟨#[]⟩)).2 = 0 := by
    unfold run at h0
    by_cases h : (don a (2, s, ⟨#[]⟩, ⟨#[]⟩)).2 = 0
    · exact h
    · rw [if_pos h] at h0; exact absurd h0 h
  rw [run, if_neg (fun h => h h2)] at h0 ⊢
  obtain ⟨_, ho2, e3, hb⟩ := don_ok h2
  have e4 : raw a (2, s, ⟨#[]⟩, ⟨#[]⟩) = (swp (synL a.1 j, a.2.1, a.2.2), 0) := by
    unfold raw
    simp only
    rw [if_neg (by decide), if_neg (by decide), if_neg hn, if_pos trivial, hj, Int.toNat_natCast]
  rw [e3, e4] at h0 hb ⊢
  have hg : Good (synL a.1 j).length a.2.1 := by rw [synL_len]; exact ha.dir
  have hlb : lv (swp (synL a.1 j, a.2.1, a.2.2)) s = some (t, t) := by
    rw [lv_swp (f := (synL a.1 j, a.2.1, a.2.2)) hg]
    unfold lv at hu ⊢
    simp only
    rw [if_neg hn] at hu ⊢
    rw [hj, Int.toNat_natCast] at hu ⊢
    unfold synL
    rw [List.getElem?_modify, hu]; simp
  obtain ⟨b, hB⟩ : ∃ b, b = swp (synL a.1 j, a.2.1, a.2.2) := ⟨_, rfl⟩
  rw [← hB] at hb h0 hlb ⊢
  -- the third one
  have h3 : (don b (5, ⟨#[]⟩, ⟨#[]⟩, ⟨#[]⟩)).2 = 0 := by
    unfold run at h0
    by_cases h : (don b (5, ⟨#[]⟩, ⟨#[]⟩, ⟨#[]⟩)).2 = 0
    · exact h
    · rw [if_pos h] at h0; exact absurd h0 h
  rw [run, if_neg (fun h => h h3)] at h0 ⊢
  obtain ⟨_, ho3, e5, hc⟩ := don_ok h3
  have e6 : raw b (5, ⟨#[]⟩, ⟨#[]⟩, ⟨#[]⟩) = (swp (b.1, b.2.1, b.2.1), 0) := by
    unfold raw
    simp only
    rw [if_neg (by decide), if_pos trivial]
  rw [e5, e6] at hc ⊢
  simp only [run] at hc ⊢
  have hlc : lv (swp (b.1, b.2.1, b.2.1)) s = some (t, t) := by
    rw [lv_swp (f := (b.1, b.2.1, b.2.1)) hb.dir]; exact hlb
  have hsame : (swp (b.1, b.2.1, b.2.1)).2.1 = (swp (b.1, b.2.1, b.2.1)).2.2 := by rw [swp_eq]
  obtain ⟨c, hC⟩ : ∃ c, c = swp (b.1, b.2.1, b.2.1) := ⟨_, rfl⟩
  rw [← hC] at hc hlc hsame ⊢
  have hcr := crs_fine hc m
  have hz : (crs c m).2 = 0 := by rw [crs_ok (ok_iff.2 hc)]
  refine ⟨(crs c m).1, Prod.ext rfl hz, ?_, crs_twice hc m k, ok_iff.2 hcr⟩
  rw [lv_rdf hcr, crs_lv hc]
  have hcd : crd c m = c.2.1 := by unfold crd; split; rfl; exact hsame.symm
  have hl2 : lv (crn m 0 c.1, crd c m, crd c m) s = some (t, t) := by
    rw [hcd]
    unfold lv at hlc ⊢
    simp only
    by_cases hn' : nof c.2.1 s < 0
    · rw [if_pos hn'] at hlc; cases hlc
    · rw [if_neg hn'] at hlc ⊢
      obtain ⟨hi, hv⟩ := List.getElem?_eq_some_iff.1 hlc
      rw [crn_at m c.1 0 _ hi, hv]
      split <;> rfl
  rw [hl2]
end Hy.Fs
namespace Go.Proofs.YtolhifnlahllnaaDoor
open Go.RowKit Hy
set_option maxHeartbeats 3200000 in
set_option maxRecDepth 100000 in
theorem fsReads_err (f : Fs.FSy) (s t o : ByteArray) (v : Value) (w : World) (hv : FsV w v f) (hb : Fs.FsB f) (hs : s.size ≤ 140737488355328) (ht : t.size ≤ 140737488355328) (h0 : (Fs.don f (1, s, ⟨#[]⟩, t)).2 ≠ 0) :
    Calls Tryd.prog 5 #[v, .string s, .string t, .string o] w fun e w' => e = .returned (.bool true) ∧ Ext w w' := by
  have HB := hid hb
  have HO1 := hid (show Fs.OpB (1, s, ⟨#[]⟩, t) from ⟨hs, Fs.e_size, ht⟩)
  have HO4 := hid (show Fs.OpB (4, s, ⟨#[]⟩, ⟨#[]⟩) from ⟨hs, Fs.e_size, Fs.e_size⟩)
  have HAB := hid (Fs.don_b f (1, s, ⟨#[]⟩, t))
  have HV := hid hv
  obtain ⟨NA, nn, nc, DA, dn, dc, SA, sn, sc, rfl⟩ := hv.shape
  have hE1 : (Fs.don f (1, s, ⟨#[]⟩, t)).1 = Fs.fs0 := Fs.don_err h0
  obtain ⟨E, hE⟩ : ∃ E, E = (Fs.don f (1, s, ⟨#[]⟩, t)).2 := ⟨_, rfl⟩
  obtain ⟨FA, hFA⟩ : ∃ F, F = Fs.fs0 := ⟨_, rfl⟩
  have HDE := hid (show Fs.don f (1, s, ⟨#[]⟩, t) = (FA, E) from Prod.ext (by rw [hE1, hFA]) hE.symm)
  rw [← hE] at h0
  have HFA := hid hFA
  have e2 : ((E : Int) != 0) = true := by simp; omega
  clear hv hb hs ht h0 hE hE1 hFA
  go_enter Tryd.func5, Tryd.ntmps5
  go_upto_region 1 with fail
  refine wp_gen (fun w' => Ext w w' ∧ Blk w' w.heap.size 25 #[.slice NA nn nc, .slice DA dn dc, .slice SA sn sc]) ⟨(ext_refl _).new _, Blk.new _ _ _⟩ ?_
  rintro wz ⟨B0, B1⟩
  have X : Hid (Ext w wz) := hid B0
  have F1 := hid B1
  replace HV := hid (HV.out.keep B0)
  clear B0 B1
  have p0 := F1.out.cell 0
  have p1 := F1.out.cell 1
  have p2 := F1.out.cell 2
  go_upto_region 1 with fail
  have p0r := cell_regrown p0
  have p1r := cell_regrown p1
  have p2r := cell_regrown p2
  apply wp_cutFS (F := fun x g A1 n1 c1 A2 n2 c2 A3 n3 c3 w' => Hid (Ext wz w') ∧ Hid (Blk w' g 25 #[.slice A1 n1 c1, .slice A2 n2 c2, .slice A3 n3 c3]) ∧ Hid (FsV w' (.agg #[.slice A1 n1 c1, .slice A2 n2 c2, .slice A3 n3 c3]) (FA)))
  case h1 =>
    refine wp_region_tree (.one 0 true (.one 1 true (.one 2 true (.two 3 8 (.two 4 8 (.one 5 true (.one 6 true (.one 7 true (.one 8 false (.one 9 false (.one 10 true (.nil))))))) (.one 4 false (.one 5 true (.one 6 true (.one 7 true (.one 9 false (.one 10 true (.nil)))))))) (.one 3 false (.one 4 false (.one 5 true (.one 6 true (.one 7 true (.one 9 false (.one 10 true (.nil)))))))))))) (by kernel_rfl) (by kernel_rfl) (by rintro _ _ _ _ _ ⟨h, _⟩; cases h) (by kernel_rfl) (by rfl) ?_
    simp only [fillT, List.getD_cons_zero, List.getD_cons_succ]
    have Y0 : Ext wz wz.drew := (ext_refl wz).draw
    generalize wz.drew = y0 at Y0 ⊢
    repeat (refine wpTO_val (by rfl) ?_; intro K hK; go_big_quiet_op; go_big_quiet_on)
    refine wpTO_two ?_ ?_
    · refine wpTO_do (by rfl) ?_
      intro K hK
      go_simp
      refine Calls.mono (op_any _ _ _ _ _) ?_
      rintro e y1 ⟨rfl, hx⟩
      have Y1 := Ext.then Y0 hx
      refine hK _ _ Y1 ?_
      clear K hK hx
      refine wpTO_two ?_ ?_
      · refine wpTO_do (by rfl) ?_
        intro K hK
        go_simp
        refine Calls.mono (doneP_any f (1, s, ⟨#[]⟩, t) _ y1 (HV.out.keep Y1) HB.out HO1.out.1 HO1.out.2.1 HO1.out.2.2) ?_
        rintro e y2 ⟨v', he, FO, hx⟩
        rw [HDE.out] at he FO
        obtain rfl := he
        obtain ⟨A1, c1, A2, c2, A3, c3, hsh, _, _, _⟩ := id FO
        obtain ⟨n1, hn1⟩ : ∃ n, n = (FA).1.length := ⟨_, rfl⟩
        obtain ⟨n2, hn2⟩ : ∃ n, n = (FA).2.1.length := ⟨_, rfl⟩
        obtain ⟨n3, hn3⟩ : ∃ n, n = (FA).2.2.length := ⟨_, rfl⟩
        rw [← hn1, ← hn2, ← hn3] at hsh
        subst hsh
        have Y2 := Ext.then Y1 hx
        refine hK _ _ Y2 ?_
        clear K hK hx hn1 hn2 hn3
        repeat (refine wpTO_val (by rfl) ?_; intro K hK; go_big_quiet_op; go_big_quiet_on)
        refine wpTO_do (by rfl) ?_
        intro K hK
        go_simp
        replace FO := FsO.keep FO (Ext.new (ext_refl y2) (.cells #[.slice none 0 0, .slice none 0 0, .slice none 0 0] 25))
        have BG := Blk.new y2 25 #[.slice none 0 0, .slice none 0 0, .slice none 0 0]
        have Y3 := Ext.new Y2 (.cells #[.slice none 0 0, .slice none 0 0, .slice none 0 0] 25)
        have hgs := (Y2).size
        obtain ⟨g, hg⟩ : ∃ g, g = (y2 : World).heap.size := ⟨_, rfl⟩
        rw [← hg] at BG hgs ⊢
        generalize (y2 : World).alloc (.cells #[.slice none 0 0, .slice none 0 0, .slice none 0 0] 25) = y3 at *
        refine hK _ _ Y3 ?_
        clear K hK hg
        have q0 := BG.cell 0
        have q1 := BG.cell 1
        have q2 := BG.cell 2
        have f0 := BG.frozen 0
        have f1 := BG.frozen 1
        have f2 := BG.frozen 2
        refine wpTO_do (by rfl) ?_
        intro K hK
        go_simp
        refine hK _ _ (Ext.put (Ext.put (Ext.put Y3 (p := ⟨g, 0, none⟩) hgs (.slice A1 n1 c1)) (p := ⟨g, 1, none⟩) hgs (.slice A2 n2 c2)) (p := ⟨g, 2, none⟩) hgs (.slice A3 n3 c3)) ?_
        clear K hK
        repeat (refine wpTO_val (by rfl) ?_; intro K hK; go_big_quiet_op; go_big_quiet_on)
        refine wpTO_nil ?_
        obtain ⟨gx, _⟩ : ∃ x : Nat, x = 0 := ⟨0, rfl⟩
        refine ⟨rfl, gx, g, A1, n1, c1, A2, n2, c2, A3, n3, c3, rfl, hid (Ext.put (Ext.put (Ext.put Y3 (p := ⟨g, 0, none⟩) hgs (.slice A1 n1 c1)) (p := ⟨g, 1, none⟩) hgs (.slice A2 n2 c2)) (p := ⟨g, 2, none⟩) hgs (.slice A3 n3 c3)), hid ((((BG.set 0 (.slice A1 n1 c1)).set 1 (.slice A2 n2 c2)).set 2 (.slice A3 n3 c3)).cast (by simp)), hid (((FO.putB BG 0 _).putB (BG.set 0 _) 1 _).putB ((BG.set 0 _).set 1 _) 2 _).V⟩
      · refine wpTO_do (by rfl) ?_
        intro K hK
        go_simp
        have BG := Blk.new y1 25 #[.slice none 0 0, .slice none 0 0, .slice none 0 0]
        have Y4 := Ext.new Y1 (.cells #[.slice none 0 0, .slice none 0 0, .slice none 0 0] 25)
        have hgs := (Y1).size
        obtain ⟨g, hg⟩ : ∃ g, g = (y1 : World).heap.size := ⟨_, rfl⟩
        rw [← hg] at BG hgs ⊢
        generalize (y1 : World).alloc (.cells #[.slice none 0 0, .slice none 0 0, .slice none 0 0] 25) = y4 at *
        refine hK _ _ Y4 ?_
        clear K hK hg
        refine wpTO_do (by rfl) ?_
        intro K hK
        go_simp
        refine Calls.mono (doneP_any f (1, s, ⟨#[]⟩, t) _ y4 (HV.out.keep Y4) HB.out HO1.out.1 HO1.out.2.1 HO1.out.2.2) ?_
        rintro e y5 ⟨v', he, FO, hx⟩
        rw [HDE.out] at he FO
        obtain rfl := he
        obtain ⟨A1, c1, A2, c2, A3, c3, hsh, _, _, _⟩ := id FO
        obtain ⟨n1, hn1⟩ : ∃ n, n = (FA).1.length := ⟨_, rfl⟩
        obtain ⟨n2, hn2⟩ : ∃ n, n = (FA).2.1.length := ⟨_, rfl⟩
        obtain ⟨n3, hn3⟩ : ∃ n, n = (FA).2.2.length := ⟨_, rfl⟩
        rw [← hn1, ← hn2, ← hn3] at hsh
        subst hsh
        have Y5 := Ext.then Y4 hx
        replace BG := Blk.keep BG (hx)
        refine hK _ _ Y5 ?_
        clear K hK hx hn1 hn2 hn3
        repeat (refine wpTO_val (by rfl) ?_; intro K hK; go_big_quiet_op; go_big_quiet_on)
        have q0 := BG.cell 0
        have q1 := BG.cell 1
        have q2 := BG.cell 2
        have f0 := BG.frozen 0
        have f1 := BG.frozen 1
        have f2 := BG.frozen 2
        refine wpTO_do (by rfl) ?_
        intro K hK
        go_simp
        refine hK _ _ (Ext.put (Ext.put (Ext.put Y5 (p := ⟨g, 0, none⟩) hgs (.slice A1 n1 c1)) (p := ⟨g, 1, none⟩) hgs (.slice A2 n2 c2)) (p := ⟨g, 2, none⟩) hgs (.slice A3 n3 c3)) ?_
        clear K hK
        repeat (refine wpTO_val (by rfl) ?_; intro K hK; go_big_quiet_op; go_big_quiet_on)
        refine wpTO_nil ?_
        obtain ⟨gx, _⟩ : ∃ x : Nat, x = 0 := ⟨0, rfl⟩
        refine ⟨rfl, gx, g, A1, n1, c1, A2, n2, c2, A3, n3, c3, rfl, hid (Ext.put (Ext.put (Ext.put Y5 (p := ⟨g, 0, none⟩) hgs (.slice A1 n1 c1)) (p := ⟨g, 1, none⟩) hgs (.slice A2 n2 c2)) (p := ⟨g, 2, none⟩) hgs (.slice A3 n3 c3)), hid ((((BG.set 0 (.slice A1 n1 c1)).set 1 (.slice A2 n2 c2)).set 2 (.slice A3 n3 c3)).cast (by simp)), hid (((FO.putB BG 0 _).putB (BG.set 0 _) 1 _).putB ((BG.set 0 _).set 1 _) 2 _).V⟩
    · refine wpTO_do (by rfl) ?_
      intro K hK
      go_simp
      have BG := Blk.new y0 25 #[.slice none 0 0, .slice none 0 0, .slice none 0 0]
      have Y6 := Ext.new Y0 (.cells #[.slice none 0 0, .slice none 0 0, .slice none 0 0] 25)
      have hgs := (Y0).size
      obtain ⟨g, hg⟩ : ∃ g, g = (y0 : World).heap.size := ⟨_, rfl⟩
      rw [← hg] at BG hgs ⊢
      generalize (y0 : World).alloc (.cells #[.slice none 0 0, .slice none 0 0, .slice none 0 0] 25) = y6 at *
      refine hK _ _ Y6 ?_
      clear K hK hg
      refine wpTO_do (by rfl) ?_
      intro K hK
      go_simp
      refine Calls.mono (op_any _ _ _ _ _) ?_
      rintro e y7 ⟨rfl, hx⟩
      have Y7 := Ext.then Y6 hx
      replace BG := Blk.keep BG (hx)
      refine hK _ _ Y7 ?_
      clear K hK hx
      refine wpTO_do (by rfl) ?_
      intro K hK
      go_simp
      refine Calls.mono (doneP_any f (1, s, ⟨#[]⟩, t) _ y7 (HV.out.keep Y7) HB.out HO1.out.1 HO1.out.2.1 HO1.out.2.2) ?_
      rintro e y8 ⟨v', he, FO, hx⟩
      rw [HDE.out] at he FO
      obtain rfl := he
      obtain ⟨A1, c1, A2, c2, A3, c3, hsh, _, _, _⟩ := id FO
      obtain ⟨n1, hn1⟩ : ∃ n, n = (FA).1.length := ⟨_, rfl⟩
      obtain ⟨n2, hn2⟩ : ∃ n, n = (FA).2.1.length := ⟨_, rfl⟩
      obtain ⟨n3, hn3⟩ : ∃ n, n = (FA).2.2.length := ⟨_, rfl⟩
      rw [← hn1, ← hn2, ← hn3] at hsh
      subst hsh
      have Y8 := Ext.then Y7 hx
      replace BG := Blk.keep BG (hx)
      refine hK _ _ Y8 ?_
      clear K hK hx hn1 hn2 hn3
      repeat (refine wpTO_val (by rfl) ?_; intro K hK; go_big_quiet_op; go_big_quiet_on)
      have q0 := BG.cell 0
      have q1 := BG.cell 1
      have q2 := BG.cell 2
      have f0 := BG.frozen 0
      have f1 := BG.frozen 1
      have f2 := BG.frozen 2
      refine wpTO_do (by rfl) ?_
      intro K hK
      go_simp
      refine hK _ _ (Ext.put (Ext.put (Ext.put Y8 (p := ⟨g, 0, none⟩) hgs (.slice A1 n1 c1)) (p := ⟨g, 1, none⟩) hgs (.slice A2 n2 c2)) (p := ⟨g, 2, none⟩) hgs (.slice A3 n3 c3)) ?_
      clear K hK
      repeat (refine wpTO_val (by rfl) ?_; intro K hK; go_big_quiet_op; go_big_quiet_on)
      refine wpTO_nil ?_
      obtain ⟨gx, _⟩ : ∃ x : Nat, x = 0 := ⟨0, rfl⟩
      refine ⟨rfl, gx, g, A1, n1, c1, A2, n2, c2, A3, n3, c3, rfl, hid (Ext.put (Ext.put (Ext.put Y8 (p := ⟨g, 0, none⟩) hgs (.slice A1 n1 c1)) (p := ⟨g, 1, none⟩) hgs (.slice A2 n2 c2)) (p := ⟨g, 2, none⟩) hgs (.slice A3 n3 c3)), hid ((((BG.set 0 (.slice A1 n1 c1)).set 1 (.slice A2 n2 c2)).set 2 (.slice A3 n3 c3)).cast (by simp)), hid (((FO.putB BG 0 _).putB (BG.set 0 _) 1 _).putB ((BG.set 0 _).set 1 _) 2 _).V⟩
  rintro xa ga A1a n1a c1a A2a n2a c2a A3a n3a c3a y1' ⟨XQ, Ba, Va⟩
  replace X := hid (X.out.then XQ.out)
  replace HV := hid (HV.out.keep XQ.out)
  replace F1 := hid (F1.out.keep XQ.out)
  clear XQ
  clear p0 p1 p2 p0r p1r p2r
  go_wp2_with fail
  refine Calls.mono (fsBegun_any _) ?_
  rintro e w3 ⟨rfl, hx⟩
  replace X := hid (X.out.then hx)
  replace HV := hid (HV.out.keep hx)
  replace F1 := hid (F1.out.keep hx)
  replace Va := hid (Va.out.keep hx)
  replace Ba := hid (Ba.out.keep hx)
  clear hx
  have a0 := Ba.out.cell 0
  have a1 := Ba.out.cell 1
  have a2 := Ba.out.cell 2
  go_wp2_with fail
  refine Calls.mono (sameFS_same FA _ _ _ Va.out (by rw [HFA.out]; exact fs0_V _) (by rw [HFA.out]; exact Fs.fs0_b)) ?_
  rintro e w4 ⟨rfl, hx⟩
  replace X := hid (X.out.then hx)
  clear hx
  go_wp2
  go_returns
  exact ⟨rfl, X.out⟩
set_option maxHeartbeats 3200000 in
set_option maxRecDepth 100000 in
theorem fsReads_same (f : Fs.FSy) (s t o : ByteArray) (v : Value) (w : World) (hv : FsV w v f) (hb : Fs.FsB f) (hs : s.size ≤ 140737488355328) (ht : t.size ≤ 140737488355328) (h0 : (Fs.don f (1, s, ⟨#[]⟩, t)).2 = 0) (ho : o = s) :
    Calls Tryd.prog 5 #[v, .string s, .string t, .string o] w fun e w' => e = .returned (.bool true) ∧ Ext w w' := by
  have HB := hid hb
  have HO1 := hid (show Fs.OpB (1, s, ⟨#[]⟩, t) from ⟨hs, Fs.e_size, ht⟩)
  have HO4 := hid (show Fs.OpB (4, s, ⟨#[]⟩, ⟨#[]⟩) from ⟨hs, Fs.e_size, Fs.e_size⟩)
  have HAB := hid (Fs.don_b f (1, s, ⟨#[]⟩, t))
  have HV := hid hv
  obtain ⟨NA, nn, nc, DA, dn, dc, SA, sn, sc, rfl⟩ := hv.shape
  obtain ⟨FA, hFA⟩ : ∃ F, F = (Fs.don f (1, s, ⟨#[]⟩, t)).1 := ⟨_, rfl⟩
  obtain ⟨FB, q1, q2, q3, q4⟩ := Fs.reads_law h0
  rw [← hFA] at q1 q2 q4
  have HDE := hid (show Fs.don f (1, s, ⟨#[]⟩, t) = (FA, 0) from Prod.ext hFA.symm h0)
  have HQ1 := hid q1
  have HD4 := hid q2
  have HQ3 := hid q3
  have HBA := hid (show Fs.FsB FA by rw [hFA]; exact Fs.don_b _ _)
  have HBB := hid (show Fs.FsB FB by have := Fs.don_b FA (4, s, ⟨#[]⟩, ⟨#[]⟩); rwa [q2] at this)
  subst ho
  obtain ⟨r1, hr1⟩ : ∃ r, r = (Fs.rdf f o).1 := ⟨_, rfl⟩
  obtain ⟨r2, hr2⟩ : ∃ r, r = (Fs.rdf f o).2 := ⟨_, rfl⟩
  have HRF := hid (fun wx v (hw : FsV wx v f) => read_any f o v wx hw HB.out)
  have HRA := hid (fun wx v (hw : FsV wx v FA) => read_any FA o v wx hw HBA.out)
  have HRB := hid (fun wx v (hw : FsV wx v FB) => read_any FB o v wx hw HBB.out)
  rw [← hr1, ← hr2] at HRF
  rw [q1] at HRA
  rw [q3] at HRB
  clear hv hb hs ht h0 hFA q1 q2 q3 q4 hr1 hr2
  go_enter Tryd.func5, Tryd.ntmps5
  go_upto_region 1 with fail
  refine wp_gen (fun w' => Ext w w' ∧ Blk w' w.heap.size 25 #[.slice NA nn nc, .slice DA dn dc, .slice SA sn sc]) ⟨(ext_refl _).new _, Blk.new _ _ _⟩ ?_
  rintro wz ⟨B0, B1⟩
  have X : Hid (Ext w wz) := hid B0
  have F1 := hid B1
  replace HV := hid (HV.out.keep B0)
  clear B0 B1
  have p0 := F1.out.cell 0
  have p1 := F1.out.cell 1
  have p2 := F1.out.cell 2
  go_upto_region 1 with fail
  have p0r := cell_regrown p0
  have p1r := cell_regrown p1
  have p2r := cell_regrown p2
  apply wp_cutFS (F := fun x g A1 n1 c1 A2 n2 c2 A3 n3 c3 w' => Hid (Ext wz w') ∧ Hid (Blk w' g 25 #[.slice A1 n1 c1, .slice A2 n2 c2, .slice A3 n3 c3]) ∧ Hid (FsV w' (.agg #[.slice A1 n1 c1, .slice A2 n2 c2, .slice A3 n3 c3]) (FA)))
  case h1 =>
    refine wp_region_tree (.one 0 true (.one 1 true (.one 2 true (.two 3 8 (.two 4 8 (.one 5 true (.one 6 true (.one 7 true (.one 8 false (.one 9 false (.one 10 true (.nil))))))) (.one 4 false (.one 5 true (.one 6 true (.one 7 true (.one 9 false (.one 10 true (.nil)))))))) (.one 3 false (.one 4 false (.one 5 true (.one 6 true (.one 7 true (.one 9 false (.one 10 true (.nil)))))))))))) (by kernel_rfl) (by kernel_rfl) (by rintro _ _ _ _ _ ⟨h, _⟩; cases h) (by kernel_rfl) (by rfl) ?_
    simp only [fillT, List.getD_cons_zero, List.getD_cons_succ]
    have Y0 : Ext wz wz.drew := (ext_refl wz).draw
    generalize wz.drew = y0 at Y0 ⊢
    repeat (refine wpTO_val (by rfl) ?_; intro K hK; go_big_quiet_op; go_big_quiet_on)
    refine wpTO_two ?_ ?_
    · refine wpTO_do (by rfl) ?_
      intro K hK
      go_simp
      refine Calls.mono (op_any _ _ _ _ _) ?_
      rintro e y1 ⟨rfl, hx⟩
      have Y1 := Ext.then Y0 hx
      refine hK _ _ Y1 ?_
      clear K hK hx
      refine wpTO_two ?_ ?_
      · refine wpTO_do (by rfl) ?_
        intro K hK
        go_simp
        refine Calls.mono (doneP_any f (1, o, ⟨#[]⟩, t) _ y1 (HV.out.keep Y1) HB.out HO1.out.1 HO1.out.2.1 HO1.out.2.2) ?_
        rintro e y2 ⟨v', he, FO, hx⟩
        rw [HDE.out] at he FO
        obtain rfl := he
        obtain ⟨A1, c1, A2, c2, A3, c3, hsh, _, _, _⟩ := id FO
        obtain ⟨n1, hn1⟩ : ∃ n, n = (FA).1.length := ⟨_, rfl⟩
        obtain ⟨n2, hn2⟩ : ∃ n, n = (FA).2.1.length := ⟨_, rfl⟩
        obtain ⟨n3, hn3⟩ : ∃ n, n = (FA).2.2.length := ⟨_, rfl⟩
        rw [← hn1, ← hn2, ← hn3] at hsh
        subst hsh
        have Y2 := Ext.then Y1 hx
        refine hK _ _ Y2 ?_
        clear K hK hx hn1 hn2 hn3
        repeat (refine wpTO_val (by rfl) ?_; intro K hK; go_big_quiet_op; go_big_quiet_on)
        refine wpTO_do (by rfl) ?_
        intro K hK
        go_simp
        replace FO := FsO.keep FO (Ext.new (ext_refl y2) (.cells #[.slice none 0 0, .slice none 0 0, .slice none 0 0] 25))
        have BG := Blk.new y2 25 #[.slice none 0 0, .slice none 0 0, .slice none 0 0]
        have Y3 := Ext.new Y2 (.cells #[.slice none 0 0, .slice none 0 0, .slice none 0 0] 25)
        have hgs := (Y2).size
        obtain ⟨g, hg⟩ : ∃ g, g = (y2 : World).heap.size := ⟨_, rfl⟩
        rw [← hg] at BG hgs ⊢
        generalize (y2 : World).alloc (.cells #[.slice none 0 0, .slice none 0 0, .slice none 0 0] 25) = y3 at *
        refine hK _ _ Y3 ?_
        clear K hK hg
        have q0 := BG.cell 0
        have q1 := BG.cell 1
        have q2 := BG.cell 2
        have f0 := BG.frozen 0
        have f1 := BG.frozen 1
        have f2 := BG.frozen 2
        refine wpTO_do (by rfl) ?_
        intro K hK
        go_simp
        refine hK _ _ (Ext.put (Ext.put (Ext.put Y3 (p := ⟨g, 0, none⟩) hgs (.slice A1 n1 c1)) (p := ⟨g, 1, none⟩) hgs (.slice A2 n2 c2)) (p := ⟨g, 2, none⟩) hgs (.slice A3 n3 c3)) ?_
        clear K hK
        repeat (refine wpTO_val (by rfl) ?_; intro K hK; go_big_quiet_op; go_big_quiet_on)
        refine wpTO_nil ?_
        obtain ⟨gx, _⟩ : ∃ x : Nat, x = 0 := ⟨0, rfl⟩
        refine ⟨rfl, gx, g, A1, n1, c1, A2, n2, c2, A3, n3, c3, rfl, hid (Ext.put (Ext.put (Ext.put Y3 (p := ⟨g, 0, none⟩) hgs (.slice A1 n1 c1)) (p := ⟨g, 1, none⟩) hgs (.slice A2 n2 c2)) (p := ⟨g, 2, none⟩) hgs (.slice A3 n3 c3)), hid ((((BG.set 0 (.slice A1 n1 c1)).set 1 (.slice A2 n2 c2)).set 2 (.slice A3 n3 c3)).cast (by simp)), hid (((FO.putB BG 0 _).putB (BG.set 0 _) 1 _).putB ((BG.set 0 _).set 1 _) 2 _).V⟩
      · refine wpTO_do (by rfl) ?_
        intro K hK
        go_simp
        have BG := Blk.new y1 25 #[.slice none 0 0, .slice none 0 0, .slice none 0 0]
        have Y4 := Ext.new Y1 (.cells #[.slice none 0 0, .slice none 0 0, .slice none 0 0] 25)
        have hgs := (Y1).size
        obtain ⟨g, hg⟩ : ∃ g, g = (y1 : World).heap.size := ⟨_, rfl⟩
        rw [← hg] at BG hgs ⊢
        generalize (y1 : World).alloc (.cells #[.slice none 0 0, .slice none 0 0, .slice none 0 0] 25) = y4 at *
        refine hK _ _ Y4 ?_
        clear K hK hg
        refine wpTO_do (by rfl) ?_
        intro K hK
        go_simp
        refine Calls.mono (doneP_any f (1, o, ⟨#[]⟩, t) _ y4 (HV.out.keep Y4) HB.out HO1.out.1 HO1.out.2.1 HO1.out.2.2) ?_
        rintro e y5 ⟨v', he, FO, hx⟩
        rw [HDE.out] at he FO
        obtain rfl := he
        obtain ⟨A1, c1, A2, c2, A3, c3, hsh, _, _, _⟩ := id FO
        obtain ⟨n1, hn1⟩ : ∃ n, n = (FA).1.length := ⟨_, rfl⟩
        obtain ⟨n2, hn2⟩ : ∃ n, n = (FA).2.1.length := ⟨_, rfl⟩
        obtain ⟨n3, hn3⟩ : ∃ n, n = (FA).2.2.length := ⟨_, rfl⟩
        rw [← hn1, ← hn2, ← hn3] at hsh
        subst hsh
        have Y5 := Ext.then Y4 hx
        replace BG := Blk.keep BG (hx)
        refine hK _ _ Y5 ?_
        clear K hK hx hn1 hn2 hn3
        repeat (refine wpTO_val (by rfl) ?_; intro K hK; go_big_quiet_op; go_big_quiet_on)
        have q0 := BG.cell 0
        have q1 := BG.cell 1
        have q2 := BG.cell 2
        have f0 := BG.frozen 0
        have f1 := BG.frozen 1
        have f2 := BG.frozen 2
        refine wpTO_do (by rfl) ?_
        intro K hK
        go_simp
        refine hK _ _ (Ext.put (Ext.put (Ext.put Y5 (p := ⟨g, 0, none⟩) hgs (.slice A1 n1 c1)) (p := ⟨g, 1, none⟩) hgs (.slice A2 n2 c2)) (p := ⟨g, 2, none⟩) hgs (.slice A3 n3 c3)) ?_
        clear K hK
        repeat (refine wpTO_val (by rfl) ?_; intro K hK; go_big_quiet_op; go_big_quiet_on)
        refine wpTO_nil ?_
        obtain ⟨gx, _⟩ : ∃ x : Nat, x = 0 := ⟨0, rfl⟩
        refine ⟨rfl, gx, g, A1, n1, c1, A2, n2, c2, A3, n3, c3, rfl, hid (Ext.put (Ext.put (Ext.put Y5 (p := ⟨g, 0, none⟩) hgs (.slice A1 n1 c1)) (p := ⟨g, 1, none⟩) hgs (.slice A2 n2 c2)) (p := ⟨g, 2, none⟩) hgs (.slice A3 n3 c3)), hid ((((BG.set 0 (.slice A1 n1 c1)).set 1 (.slice A2 n2 c2)).set 2 (.slice A3 n3 c3)).cast (by simp)), hid (((FO.putB BG 0 _).putB (BG.set 0 _) 1 _).putB ((BG.set 0 _).set 1 _) 2 _).V⟩
    · refine wpTO_do (by rfl) ?_
      intro K hK
      go_simp
      have BG := Blk.new y0 25 #[.slice none 0 0, .slice none 0 0, .slice none 0 0]
      have Y6 := Ext.new Y0 (.cells #[.slice none 0 0, .slice none 0 0, .slice none 0 0] 25)
      have hgs := (Y0).size
      obtain ⟨g, hg⟩ : ∃ g, g = (y0 : World).heap.size := ⟨_, rfl⟩
      rw [← hg] at BG hgs ⊢
      generalize (y0 : World).alloc (.cells #[.slice none 0 0, .slice none 0 0, .slice none 0 0] 25) = y6 at *
      refine hK _ _ Y6 ?_
      clear K hK hg
      refine wpTO_do (by rfl) ?_
      intro K hK
      go_simp
      refine Calls.mono (op_any _ _ _ _ _) ?_
      rintro e y7 ⟨rfl, hx⟩
      have Y7 := Ext.then Y6 hx
      replace BG := Blk.keep BG (hx)
      refine hK _ _ Y7 ?_
      clear K hK hx
      refine wpTO_do (by rfl) ?_
      intro K hK
      go_simp
      refine Calls.mono (doneP_any f (1, o, ⟨#[]⟩, t) _ y7 (HV.out.keep Y7) HB.out HO1.out.1 HO1.out.2.1 HO1.out.2.2) ?_
      rintro e y8 ⟨v', he, FO, hx⟩
      rw [HDE.out] at he FO
      obtain rfl := he
      obtain ⟨A1, c1, A2, c2, A3, c3, hsh, _, _, _⟩ := id FO
      obtain ⟨n1, hn1⟩ : ∃ n, n = (FA).1.length := ⟨_, rfl⟩
      obtain ⟨n2, hn2⟩ : ∃ n, n = (FA).2.1.length := ⟨_, rfl⟩
      obtain ⟨n3, hn3⟩ : ∃ n, n = (FA).2.2.length := ⟨_, rfl⟩
      rw [← hn1, ← hn2, ← hn3] at hsh
      subst hsh
      have Y8 := Ext.then Y7 hx
      replace BG := Blk.keep BG (hx)
      refine hK _ _ Y8 ?_
      clear K hK hx hn1 hn2 hn3
      repeat (refine wpTO_val (by rfl) ?_; intro K hK; go_big_quiet_op; go_big_quiet_on)
      have q0 := BG.cell 0
      have q1 := BG.cell 1
      have q2 := BG.cell 2
      have f0 := BG.frozen 0
      have f1 := BG.frozen 1
      have f2 := BG.frozen 2
      refine wpTO_do (by rfl) ?_
      intro K hK
      go_simp
      refine hK _ _ (Ext.put (Ext.put (Ext.put Y8 (p := ⟨g, 0, none⟩) hgs (.slice A1 n1 c1)) (p := ⟨g, 1, none⟩) hgs (.slice A2 n2 c2)) (p := ⟨g, 2, none⟩) hgs (.slice A3 n3 c3)) ?_
      clear K hK
      repeat (refine wpTO_val (by rfl) ?_; intro K hK; go_big_quiet_op; go_big_quiet_on)
      refine wpTO_nil ?_
      obtain ⟨gx, _⟩ : ∃ x : Nat, x = 0 := ⟨0, rfl⟩
      refine ⟨rfl, gx, g, A1, n1, c1, A2, n2, c2, A3, n3, c3, rfl, hid (Ext.put (Ext.put (Ext.put Y8 (p := ⟨g, 0, none⟩) hgs (.slice A1 n1 c1)) (p := ⟨g, 1, none⟩) hgs (.slice A2 n2 c2)) (p := ⟨g, 2, none⟩) hgs (.slice A3 n3 c3)), hid ((((BG.set 0 (.slice A1 n1 c1)).set 1 (.slice A2 n2 c2)).set 2 (.slice A3 n3 c3)).cast (by simp)), hid (((FO.putB BG 0 _).putB (BG.set 0 _) 1 _).putB ((BG.set 0 _).set 1 _) 2 _).V⟩
  rintro xa ga A1a n1a c1a A2a n2a c2a A3a n3a c3a y1' ⟨XQ, Ba, Va⟩
  replace X := hid (X.out.then XQ.out)
  replace HV := hid (HV.out.keep XQ.out)
  replace F1 := hid (F1.out.keep XQ.out)
  clear XQ
  clear p0 p1 p2 p0r p1r p2r
  go_wp2_with fail
  refine Calls.mono (fsBegun_any _) ?_
  rintro e w3 ⟨rfl, hx⟩
  replace X := hid (X.out.then hx)
  replace HV := hid (HV.out.keep hx)
  replace F1 := hid (F1.out.keep hx)
  replace Va := hid (Va.out.keep hx)
  replace Ba := hid (Ba.out.keep hx)
  clear hx
  have a0 := Ba.out.cell 0
  have a1 := Ba.out.cell 1
  have a2 := Ba.out.cell 2
  go_wp2_with fail
  refine Calls.mono (read_any FA o _ _ Va.out HBA.out) ?_
  rintro e w4 ⟨he, hx⟩
  obtain rfl : e = .returned (.tuple #[.string t, .int .i64 (0)]) := by rw [he, HQ1.out]; try rfl
  replace X := hid (X.out.then hx)
  replace HV := hid (HV.out.keep hx)
  replace F1 := hid (F1.out.keep hx)
  replace Va := hid (Va.out.keep hx)
  replace Ba := hid (Ba.out.keep hx)
  clear hx he
  clear a0 a1 a2
  have p0 := F1.out.cell 0
  have p1 := F1.out.cell 1
  have p2 := F1.out.cell 2
  go_wp2_with fail
  refine Calls.mono (HRF.out _ _ HV.out) ?_
  rintro e w5 ⟨rfl, hx⟩
  replace X := hid (X.out.then hx)
  replace HV := hid (HV.out.keep hx)
  replace F1 := hid (F1.out.keep hx)
  replace Va := hid (Va.out.keep hx)
  replace Ba := hid (Ba.out.keep hx)
  clear hx p0 p1 p2
  have a0 := Ba.out.cell 0
  have a1 := Ba.out.cell 1
  have a2 := Ba.out.cell 2
  go_wp2_with fail
  refine Calls.mono (HRA.out _ _ Va.out) ?_
  rintro e w6 ⟨rfl, hx⟩
  replace X := hid (X.out.then hx)
  replace Va := hid (Va.out.keep hx)
  replace Ba := hid (Ba.out.keep hx)
  clear hx a0 a1 a2
  have a0 := Ba.out.cell 0
  have a1 := Ba.out.cell 1
  have a2 := Ba.out.cell 2
  go_upto_region 9 with fail
  have a0r := cell_regrown a0
  have a1r := cell_regrown a1
  have a2r := cell_regrown a2
  apply wp_cutFS (F := fun x g A1 n1 c1 A2 n2 c2 A3 n3 c3 w' => Hid (Ext w6 w') ∧ Hid (Blk w' g 25 #[.slice A1 n1 c1, .slice A2 n2 c2, .slice A3 n3 c3]) ∧ Hid (FsV w' (.agg #[.slice A1 n1 c1, .slice A2 n2 c2, .slice A3 n3 c3]) (FB)))
  case h1 =>
    refine wp_region_tree (.one 0 true (.one 1 true (.two 2 7 (.two 3 7 (.one 4 true (.one 5 true (.one 6 true (.one 7 false (.one 8 false (.one 9 true (.nil))))))) (.one 3 false (.one 4 true (.one 5 true (.one 6 true (.one 8 false (.one 9 true (.nil)))))))) (.one 2 false (.one 3 false (.one 4 true (.one 5 true (.one 6 true (.one 8 false (.one 9 true (.nil))))))))))) (by kernel_rfl) (by kernel_rfl) (by rintro _ _ _ _ _ ⟨h, _⟩; cases h) (by kernel_rfl) (by rfl) ?_
    simp only [fillT, List.getD_cons_zero, List.getD_cons_succ]
    have Y0 : Ext w6 w6.drew := (ext_refl w6).draw
    generalize w6.drew = y0 at Y0 ⊢
    repeat (refine wpTO_val (by rfl) ?_; intro K hK; go_big_quiet_op; go_big_quiet_on)
    refine wpTO_two ?_ ?_
    · refine wpTO_do (by rfl) ?_
      intro K hK
      go_simp
      refine Calls.mono (op_any _ _ _ _ _) ?_
      rintro e y1 ⟨rfl, hx⟩
      have Y1 := Ext.then Y0 hx
      refine hK _ _ Y1 ?_
      clear K hK hx
      refine wpTO_two ?_ ?_
      · refine wpTO_do (by rfl) ?_
        intro K hK
        go_simp
        refine Calls.mono (doneP_any FA (4, o, ⟨#[]⟩, ⟨#[]⟩) _ y1 (Va.out.keep Y1) HBA.out HO4.out.1 HO4.out.2.1 HO4.out.2.2) ?_
        rintro e y2 ⟨v', he, FO, hx⟩
        rw [HD4.out] at he FO
        obtain rfl := he
        obtain ⟨A1, c1, A2, c2, A3, c3, hsh, _, _, _⟩ := id FO
        obtain ⟨n1, hn1⟩ : ∃ n, n = (FB).1.length := ⟨_, rfl⟩
        obtain ⟨n2, hn2⟩ : ∃ n, n = (FB).2.1.length := ⟨_, rfl⟩
        obtain ⟨n3, hn3⟩ : ∃ n, n = (FB).2.2.length := ⟨_, rfl⟩
        rw [← hn1, ← hn2, ← hn3] at hsh
        subst hsh
        have Y2 := Ext.then Y1 hx
        refine hK _ _ Y2 ?_
        clear K hK hx hn1 hn2 hn3
        repeat (refine wpTO_val (by rfl) ?_; intro K hK; go_big_quiet_op; go_big_quiet_on)
        refine wpTO_do (by rfl) ?_
        intro K hK
        go_simp
        replace FO := FsO.keep FO (Ext.new (ext_refl y2) (.cells #[.slice none 0 0, .slice none 0 0, .slice none 0 0] 25))
        have BG := Blk.new y2 25 #[.slice none 0 0, .slice none 0 0, .slice none 0 0]
        have Y3 := Ext.new Y2 (.cells #[.slice none 0 0, .slice none 0 0, .slice none 0 0] 25)
        have hgs := (Y2).size
        obtain ⟨g, hg⟩ : ∃ g, g = (y2 : World).heap.size := ⟨_, rfl⟩
        rw [← hg] at BG hgs ⊢
        generalize (y2 : World).alloc (.cells #[.slice none 0 0, .slice none 0 0, .slice none 0 0] 25) = y3 at *
        refine hK _ _ Y3 ?_
        clear K hK hg
        have q0 := BG.cell 0
        have q1 := BG.cell 1
        have q2 := BG.cell 2
        have f0 := BG.frozen 0
        have f1 := BG.frozen 1
        have f2 := BG.frozen 2
        refine wpTO_do (by rfl) ?_
        intro K hK
        go_simp
        refine hK _ _ (Ext.put (Ext.put (Ext.put Y3 (p := ⟨g, 0, none⟩) hgs (.slice A1 n1 c1)) (p := ⟨g, 1, none⟩) hgs (.slice A2 n2 c2)) (p := ⟨g, 2, none⟩) hgs (.slice A3 n3 c3)) ?_
        clear K hK
        repeat (refine wpTO_val (by rfl) ?_; intro K hK; go_big_quiet_op; go_big_quiet_on)
        refine wpTO_nil ?_
        obtain ⟨gx, _⟩ : ∃ x : Nat, x = 0 := ⟨0, rfl⟩
        refine ⟨rfl, gx, g, A1, n1, c1, A2, n2, c2, A3, n3, c3, rfl, hid (Ext.put (Ext.put (Ext.put Y3 (p := ⟨g, 0, none⟩) hgs (.slice A1 n1 c1)) (p := ⟨g, 1, none⟩) hgs (.slice A2 n2 c2)) (p := ⟨g, 2, none⟩) hgs (.slice A3 n3 c3)), hid ((((BG.set 0 (.slice A1 n1 c1)).set 1 (.slice A2 n2 c2)).set 2 (.slice A3 n3 c3)).cast (by simp)), hid (((FO.putB BG 0 _).putB (BG.set 0 _) 1 _).putB ((BG.set 0 _).set 1 _) 2 _).V⟩
      · refine wpTO_do (by rfl) ?_
        intro K hK
        go_simp
        have BG := Blk.new y1 25 #[.slice none 0 0, .slice none 0 0, .slice none 0 0]
        have Y4 := Ext.new Y1 (.cells #[.slice none 0 0, .slice none 0 0, .slice none 0 0] 25)
        have hgs := (Y1).size
        obtain ⟨g, hg⟩ : ∃ g, g = (y1 : World).heap.size := ⟨_, rfl⟩
        rw [← hg] at BG hgs ⊢
        generalize (y1 : World).alloc (.cells #[.slice none 0 0, .slice none 0 0, .slice none 0 0] 25) = y4 at *
        refine hK _ _ Y4 ?_
        clear K hK hg
        refine wpTO_do (by rfl) ?_
        intro K hK
        go_simp
        refine Calls.mono (doneP_any FA (4, o, ⟨#[]⟩, ⟨#[]⟩) _ y4 (Va.out.keep Y4) HBA.out HO4.out.1 HO4.out.2.1 HO4.out.2.2) ?_
        rintro e y5 ⟨v', he, FO, hx⟩
        rw [HD4.out] at he FO
        obtain rfl := he
        obtain ⟨A1, c1, A2, c2, A3, c3, hsh, _, _, _⟩ := id FO
        obtain ⟨n1, hn1⟩ : ∃ n, n = (FB).1.length := ⟨_, rfl⟩
        obtain ⟨n2, hn2⟩ : ∃ n, n = (FB).2.1.length := ⟨_, rfl⟩
        obtain ⟨n3, hn3⟩ : ∃ n, n = (FB).2.2.length := ⟨_, rfl⟩
        rw [← hn1, ← hn2, ← hn3] at hsh
        subst hsh
        have Y5 := Ext.then Y4 hx
        replace BG := Blk.keep BG (hx)
        refine hK _ _ Y5 ?_
        clear K hK hx hn1 hn2 hn3
        repeat (refine wpTO_val (by rfl) ?_; intro K hK; go_big_quiet_op; go_big_quiet_on)
        have q0 := BG.cell 0
        have q1 := BG.cell 1
        have q2 := BG.cell 2
        have f0 := BG.frozen 0
        have f1 := BG.frozen 1
        have f2 := BG.frozen 2
        refine wpTO_do (by rfl) ?_
        intro K hK
        go_simp
        refine hK _ _ (Ext.put (Ext.put (Ext.put Y5 (p := ⟨g, 0, none⟩) hgs (.slice A1 n1 c1)) (p := ⟨g, 1, none⟩) hgs (.slice A2 n2 c2)) (p := ⟨g, 2, none⟩) hgs (.slice A3 n3 c3)) ?_
        clear K hK
        repeat (refine wpTO_val (by rfl) ?_; intro K hK; go_big_quiet_op; go_big_quiet_on)
        refine wpTO_nil ?_
        obtain ⟨gx, _⟩ : ∃ x : Nat, x = 0 := ⟨0, rfl⟩
        refine ⟨rfl, gx, g, A1, n1, c1, A2, n2, c2, A3, n3, c3, rfl, hid (Ext.put (Ext.put (Ext.put Y5 (p := ⟨g, 0, none⟩) hgs (.slice A1 n1 c1)) (p := ⟨g, 1, none⟩) hgs (.slice A2 n2 c2)) (p := ⟨g, 2, none⟩) hgs (.slice A3 n3 c3)), hid ((((BG.set 0 (.slice A1 n1 c1)).set 1 (.slice A2 n2 c2)).set 2 (.slice A3 n3 c3)).cast (by simp)), hid (((FO.putB BG 0 _).putB (BG.set 0 _) 1 _).putB ((BG.set 0 _).set 1 _) 2 _).V⟩
    · refine wpTO_do (by rfl) ?_
      intro K hK
      go_simp
      have BG := Blk.new y0 25 #[.slice none 0 0, .slice none 0 0, .slice none 0 0]
      have Y6 := Ext.new Y0 (.cells #[.slice none 0 0, .slice none 0 0, .slice none 0 0] 25)
      have hgs := (Y0).size
      obtain ⟨g, hg⟩ : ∃ g, g = (y0 : World).heap.size := ⟨_, rfl⟩
      rw [← hg] at BG hgs ⊢
      generalize (y0 : World).alloc (.cells #[.slice none 0 0, .slice none 0 0, .slice none 0 0] 25) = y6 at *
      refine hK _ _ Y6 ?_
      clear K hK hg
      refine wpTO_do (by rfl) ?_
      intro K hK
      go_simp
      refine Calls.mono (op_any _ _ _ _ _) ?_
      rintro e y7 ⟨rfl, hx⟩
      have Y7 := Ext.then Y6 hx
      replace BG := Blk.keep BG (hx)
      refine hK _ _ Y7 ?_
      clear K hK hx
      refine wpTO_do (by rfl) ?_
      intro K hK
      go_simp
      refine Calls.mono (doneP_any FA (4, o, ⟨#[]⟩, ⟨#[]⟩) _ y7 (Va.out.keep Y7) HBA.out HO4.out.1 HO4.out.2.1 HO4.out.2.2) ?_
      rintro e y8 ⟨v', he, FO, hx⟩
      rw [HD4.out] at he FO
      obtain rfl := he
      obtain ⟨A1, c1, A2, c2, A3, c3, hsh, _, _, _⟩ := id FO
      obtain ⟨n1, hn1⟩ : ∃ n, n = (FB).1.length := ⟨_, rfl⟩
      obtain ⟨n2, hn2⟩ : ∃ n, n = (FB).2.1.length := ⟨_, rfl⟩
      obtain ⟨n3, hn3⟩ : ∃ n, n = (FB).2.2.length := ⟨_, rfl⟩
      rw [← hn1, ← hn2, ← hn3] at hsh
      subst hsh
      have Y8 := Ext.then Y7 hx
      replace BG := Blk.keep BG (hx)
      refine hK _ _ Y8 ?_
      clear K hK hx hn1 hn2 hn3
      repeat (refine wpTO_val (by rfl) ?_; intro K hK; go_big_quiet_op; go_big_quiet_on)
      have q0 := BG.cell 0
      have q1 := BG.cell 1
      have q2 := BG.cell 2
      have f0 := BG.frozen 0
      have f1 := BG.frozen 1
      have f2 := BG.frozen 2
      refine wpTO_do (by rfl) ?_
      intro K hK
      go_simp
      refine hK _ _ (Ext.put (Ext.put (Ext.put Y8 (p := ⟨g, 0, none⟩) hgs (.slice A1 n1 c1)) (p := ⟨g, 1, none⟩) hgs (.slice A2 n2 c2)) (p := ⟨g, 2, none⟩) hgs (.slice A3 n3 c3)) ?_
      clear K hK
      repeat (refine wpTO_val (by rfl) ?_; intro K hK; go_big_quiet_op; go_big_quiet_on)
      refine wpTO_nil ?_
      obtain ⟨gx, _⟩ : ∃ x : Nat, x = 0 := ⟨0, rfl⟩
      refine ⟨rfl, gx, g, A1, n1, c1, A2, n2, c2, A3, n3, c3, rfl, hid (Ext.put (Ext.put (Ext.put Y8 (p := ⟨g, 0, none⟩) hgs (.slice A1 n1 c1)) (p := ⟨g, 1, none⟩) hgs (.slice A2 n2 c2)) (p := ⟨g, 2, none⟩) hgs (.slice A3 n3 c3)), hid ((((BG.set 0 (.slice A1 n1 c1)).set 1 (.slice A2 n2 c2)).set 2 (.slice A3 n3 c3)).cast (by simp)), hid (((FO.putB BG 0 _).putB (BG.set 0 _) 1 _).putB ((BG.set 0 _).set 1 _) 2 _).V⟩
  rintro xb gb A1b n1b c1b A2b n2b c2b A3b n3b c3b y2' ⟨XQ, Bb, Vb⟩
  replace X := hid (X.out.then XQ.out)
  clear XQ
  clear a0 a1 a2 a0r a1r a2r
  have b0 := Bb.out.cell 0
  have b1 := Bb.out.cell 1
  have b2 := Bb.out.cell 2
  go_wp2_with fail
  refine Calls.mono (read_any FB o _ _ Vb.out HBB.out) ?_
  rintro e w10 ⟨he, hx⟩
  obtain rfl : e = .returned (.tuple #[.string ByteArray.empty, .int .i64 (5)]) := by rw [he, HQ3.out]; try rfl
  replace X := hid (X.out.then hx)
  replace Vb := hid (Vb.out.keep hx)
  replace Bb := hid (Bb.out.keep hx)
  clear hx he
  clear b0 b1 b2
  have b0 := Bb.out.cell 0
  have b1 := Bb.out.cell 1
  have b2 := Bb.out.cell 2
  go_wp2_with fail
  refine Calls.mono (HRB.out _ _ Vb.out) ?_
  rintro e w11 ⟨rfl, hx⟩
  replace X := hid (X.out.then hx)
  clear hx
  go_wp2
  go_returns
  exact ⟨rfl, X.out⟩
set_option maxHeartbeats 3200000 in
set_option maxRecDepth 100000 in
theorem fsReads_not (f : Fs.FSy) (s t o : ByteArray) (v : Value) (w : World) (hv : FsV w v f) (hb : Fs.FsB f) (hs : s.size ≤ 140737488355328) (ht : t.size ≤ 140737488355328) (h0 : (Fs.don f (1, s, ⟨#[]⟩, t)).2 = 0) (ho : o ≠ s) :
    Calls Tryd.prog 5 #[v, .string s, .string t, .string o] w fun e w' => e = .returned (.bool true) ∧ Ext w w' := by
  have HB := hid hb
  have HO1 := hid (show Fs.OpB (1, s, ⟨#[]⟩, t) from ⟨hs, Fs.e_size, ht⟩)
  have HO4 := hid (show Fs.OpB (4, s, ⟨#[]⟩, ⟨#[]⟩) from ⟨hs, Fs.e_size, Fs.e_size⟩)
  have HAB := hid (Fs.don_b f (1, s, ⟨#[]⟩, t))
  have HV := hid hv
  obtain ⟨NA, nn, nc, DA, dn, dc, SA, sn, sc, rfl⟩ := hv.shape
  obtain ⟨FA, hFA⟩ : ∃ F, F = (Fs.don f (1, s, ⟨#[]⟩, t)).1 := ⟨_, rfl⟩
  obtain ⟨FB, q1, q2, q3, q4⟩ := Fs.reads_law h0
  rw [← hFA] at q1 q2 q4
  have HDE := hid (show Fs.don f (1, s, ⟨#[]⟩, t) = (FA, 0) from Prod.ext hFA.symm h0)
  have HQ1 := hid q1
  have HD4 := hid q2
  have HQ3 := hid q3
  have HBA := hid (show Fs.FsB FA by rw [hFA]; exact Fs.don_b _ _)
  have HBB := hid (show Fs.FsB FB by have := Fs.don_b FA (4, s, ⟨#[]⟩, ⟨#[]⟩); rwa [q2] at this)
  obtain ⟨q5, q6⟩ := q4 o ho
  obtain ⟨r1, hr1⟩ : ∃ r, r = (Fs.rdf f o).1 := ⟨_, rfl⟩
  obtain ⟨r2, hr2⟩ : ∃ r, r = (Fs.rdf f o).2 := ⟨_, rfl⟩
  have HRF := hid (fun wx v (hw : FsV wx v f) => read_any f o v wx hw HB.out)
  have HRA := hid (fun wx v (hw : FsV wx v FA) => read_any FA o v wx hw HBA.out)
  have HRB := hid (fun wx v (hw : FsV wx v FB) => read_any FB o v wx hw HBB.out)
  rw [← hr1, ← hr2] at HRF
  rw [q5, ← hr1, ← hr2] at HRA
  rw [q6, ← hr1, ← hr2] at HRB
  have hne := Fs.tl_ne ho
  clear hv hb hs ht h0 hFA q1 q2 q3 q4 q5 q6 hr1 hr2 ho
  go_enter Tryd.func5, Tryd.ntmps5
  go_upto_region 1 with fail
  refine wp_gen (fun w' => Ext w w' ∧ Blk w' w.heap.size 25 #[.slice NA nn nc, .slice DA dn dc, .slice SA sn sc]) ⟨(ext_refl _).new _, Blk.new _ _ _⟩ ?_
  rintro wz ⟨B0, B1⟩
  have X : Hid (Ext w wz) := hid B0
  have F1 := hid B1
  replace HV := hid (HV.out.keep B0)
  clear B0 B1
  have p0 := F1.out.cell 0
  have p1 := F1.out.cell 1
  have p2 := F1.out.cell 2
  go_upto_region 1 with fail
  have p0r := cell_regrown p0
  have p1r := cell_regrown p1
  have p2r := cell_regrown p2
  apply wp_cutFS (F := fun x g A1 n1 c1 A2 n2 c2 A3 n3 c3 w' => Hid (Ext wz w') ∧ Hid (Blk w' g 25 #[.slice A1 n1 c1, .slice A2 n2 c2, .slice A3 n3 c3]) ∧ Hid (FsV w' (.agg #[.slice A1 n1 c1, .slice A2 n2 c2, .slice A3 n3 c3]) (FA)))
  case h1 =>
    refine wp_region_tree (.one 0 true (.one 1 true (.one 2 true (.two 3 8 (.two 4 8 (.one 5 true (.one 6 true (.one 7 true (.one 8 false (.one 9 false (.one 10 true (.nil))))))) (.one 4 false (.one 5 true (.one 6 true (.one 7 true (.one 9 false (.one 10 true (.nil)))))))) (.one 3 false (.one 4 false (.one 5 true (.one 6 true (.one 7 true (.one 9 false (.one 10 true (.nil)))))))))))) (by kernel_rfl) (by kernel_rfl) (by rintro _ _ _ _ _ ⟨h, _⟩; cases h) (by kernel_rfl) (by rfl) ?_
    simp only [fillT, List.getD_cons_zero, List.getD_cons_succ]
    have Y0 : Ext wz wz.drew := (ext_refl wz).draw
    generalize wz.drew = y0 at Y0 ⊢
    repeat (refine wpTO_val (by rfl) ?_; intro K hK; go_big_quiet_op; go_big_quiet_on)
    refine wpTO_two ?_ ?_
    · refine wpTO_do (by rfl) ?_
      intro K hK
      go_simp
      refine Calls.mono (op_any _ _ _ _ _) ?_
      rintro e y1 ⟨rfl, hx⟩
      have Y1 := Ext.then Y0 hx
      refine hK _ _ Y1 ?_
      clear K hK hx
      refine wpTO_two ?_ ?_
      · refine wpTO_do (by rfl) ?_
        intro K hK
        go_simp
        refine Calls.mono (doneP_any f (1, s, ⟨#[]⟩, t) _ y1 (HV.out.keep Y1) HB.out HO1.out.1 HO1.out.2.1 HO1.out.2.2) ?_
        rintro e y2 ⟨v', he, FO, hx⟩
        rw [HDE.out] at he FO
        obtain rfl := he
        obtain ⟨A1, c1, A2, c2, A3, c3, hsh, _, _, _⟩ := id FO
        obtain ⟨n1, hn1⟩ : ∃ n, n = (FA).1.length := ⟨_, rfl⟩
        obtain ⟨n2, hn2⟩ : ∃ n, n = (FA).2.1.length := ⟨_, rfl⟩
        obtain ⟨n3, hn3⟩ : ∃ n, n = (FA).2.2.length := ⟨_, rfl⟩
        rw [← hn1, ← hn2, ← hn3] at hsh
        subst hsh
        have Y2 := Ext.then Y1 hx
        refine hK _ _ Y2 ?_
        clear K hK hx hn1 hn2 hn3
        repeat (refine wpTO_val (by rfl) ?_; intro K hK; go_big_quiet_op; go_big_quiet_on)
        refine wpTO_do (by rfl) ?_
        intro K hK
        go_simp
        replace FO := FsO.keep FO (Ext.new (ext_refl y2) (.cells #[.slice none 0 0, .slice none 0 0, .slice none 0 0] 25))
        have BG := Blk.new y2 25 #[.slice none 0 0, .slice none 0 0, .slice none 0 0]
        have Y3 := Ext.new Y2 (.cells #[.slice none 0 0, .slice none 0 0, .slice none 0 0] 25)
        have hgs := (Y2).size
        obtain ⟨g, hg⟩ : ∃ g, g = (y2 : World).heap.size := ⟨_, rfl⟩
        rw [← hg] at BG hgs ⊢
        generalize (y2 : World).alloc (.cells #[.slice none 0 0, .slice none 0 0, .slice none 0 0] 25) = y3 at *
        refine hK _ _ Y3 ?_
        clear K hK hg
        have q0 := BG.cell 0
        have q1 := BG.cell 1
        have q2 := BG.cell 2
        have f0 := BG.frozen 0
        have f1 := BG.frozen 1
        have f2 := BG.frozen 2
        refine wpTO_do (by rfl) ?_
        intro K hK
        go_simp
        refine hK _ _ (Ext.put (Ext.put (Ext.put Y3 (p := ⟨g, 0, none⟩) hgs (.slice A1 n1 c1)) (p := ⟨g, 1, none⟩) hgs (.slice A2 n2 c2)) (p := ⟨g, 2, none⟩) hgs (.slice A3 n3 c3)) ?_
        clear K hK
        repeat (refine wpTO_val (by rfl) ?_; intro K hK; go_big_quiet_op; go_big_quiet_on)
        refine wpTO_nil ?_
        obtain ⟨gx, _⟩ : ∃ x : Nat, x = 0 := ⟨0, rfl⟩
        refine ⟨rfl, gx, g, A1, n1, c1, A2, n2, c2, A3, n3, c3, rfl, hid (Ext.put (Ext.put (Ext.put Y3 (p := ⟨g, 0, none⟩) hgs (.slice A1 n1 c1)) (p := ⟨g, 1, none⟩) hgs (.slice A2 n2 c2)) (p := ⟨g, 2, none⟩) hgs (.slice A3 n3 c3)), hid ((((BG.set 0 (.slice A1 n1 c1)).set 1 (.slice A2 n2 c2)).set 2 (.slice A3 n3 c3)).cast (by simp)), hid (((FO.putB BG 0 _).putB (BG.set 0 _) 1 _).putB ((BG.set 0 _).set 1 _) 2 _).V⟩
      · refine wpTO_do (by rfl) ?_
        intro K hK
        go_simp
        have BG := Blk.new y1 25 #[.slice none 0 0, .slice none 0 0, .slice none 0 0]
        have Y4 := Ext.new Y1 (.cells #[.slice none 0 0, .slice none 0 0, .slice none 0 0] 25)
        have hgs := (Y1).size
        obtain ⟨g, hg⟩ : ∃ g, g = (y1 : World).heap.size := ⟨_, rfl⟩
        rw [← hg] at BG hgs ⊢
        generalize (y1 : World).alloc (.cells #[.slice none 0 0, .slice none 0 0, .slice none 0 0] 25) = y4 at *
        refine hK _ _ Y4 ?_
        clear K hK hg
        refine wpTO_do (by rfl) ?_
        intro K hK
        go_simp
        refine Calls.mono (doneP_any f (1, s, ⟨#[]⟩, t) _ y4 (HV.out.keep Y4) HB.out HO1.out.1 HO1.out.2.1 HO1.out.2.2) ?_
        rintro e y5 ⟨v', he, FO, hx⟩
        rw [HDE.out] at he FO
        obtain rfl := he
        obtain ⟨A1, c1, A2, c2, A3, c3, hsh, _, _, _⟩ := id FO
        obtain ⟨n1, hn1⟩ : ∃ n, n = (FA).1.length := ⟨_, rfl⟩
        obtain ⟨n2, hn2⟩ : ∃ n, n = (FA).2.1.length := ⟨_, rfl⟩
        obtain ⟨n3, hn3⟩ : ∃ n, n = (FA).2.2.length := ⟨_, rfl⟩
        rw [← hn1, ← hn2, ← hn3] at hsh
        subst hsh
        have Y5 := Ext.then Y4 hx
        replace BG := Blk.keep BG (hx)
        refine hK _ _ Y5 ?_
        clear K hK hx hn1 hn2 hn3
        repeat (refine wpTO_val (by rfl) ?_; intro K hK; go_big_quiet_op; go_big_quiet_on)
        have q0 := BG.cell 0
        have q1 := BG.cell 1
        have q2 := BG.cell 2
        have f0 := BG.frozen 0
        have f1 := BG.frozen 1
        have f2 := BG.frozen 2
        refine wpTO_do (by rfl) ?_
        intro K hK
        go_simp
        refine hK _ _ (Ext.put (Ext.put (Ext.put Y5 (p := ⟨g, 0, none⟩) hgs (.slice A1 n1 c1)) (p := ⟨g, 1, none⟩) hgs (.slice A2 n2 c2)) (p := ⟨g, 2, none⟩) hgs (.slice A3 n3 c3)) ?_
        clear K hK
        repeat (refine wpTO_val (by rfl) ?_; intro K hK; go_big_quiet_op; go_big_quiet_on)
        refine wpTO_nil ?_
        obtain ⟨gx, _⟩ : ∃ x : Nat, x = 0 := ⟨0, rfl⟩
        refine ⟨rfl, gx, g, A1, n1, c1, A2, n2, c2, A3, n3, c3, rfl, hid (Ext.put (Ext.put (Ext.put Y5 (p := ⟨g, 0, none⟩) hgs (.slice A1 n1 c1)) (p := ⟨g, 1, none⟩) hgs (.slice A2 n2 c2)) (p := ⟨g, 2, none⟩) hgs (.slice A3 n3 c3)), hid ((((BG.set 0 (.slice A1 n1 c1)).set 1 (.slice A2 n2 c2)).set 2 (.slice A3 n3 c3)).cast (by simp)), hid (((FO.putB BG 0 _).putB (BG.set 0 _) 1 _).putB ((BG.set 0 _).set 1 _) 2 _).V⟩
    · refine wpTO_do (by rfl) ?_
      intro K hK
      go_simp
      have BG := Blk.new y0 25 #[.slice none 0 0, .slice none 0 0, .slice none 0 0]
      have Y6 := Ext.new Y0 (.cells #[.slice none 0 0, .slice none 0 0, .slice none 0 0] 25)
      have hgs := (Y0).size
      obtain ⟨g, hg⟩ : ∃ g, g = (y0 : World).heap.size := ⟨_, rfl⟩
      rw [← hg] at BG hgs ⊢
      generalize (y0 : World).alloc (.cells #[.slice none 0 0, .slice none 0 0, .slice none 0 0] 25) = y6 at *
      refine hK _ _ Y6 ?_
      clear K hK hg
      refine wpTO_do (by rfl) ?_
      intro K hK
      go_simp
      refine Calls.mono (op_any _ _ _ _ _) ?_
      rintro e y7 ⟨rfl, hx⟩
      have Y7 := Ext.then Y6 hx
      replace BG := Blk.keep BG (hx)
      refine hK _ _ Y7 ?_
      clear K hK hx
      refine wpTO_do (by rfl) ?_
      intro K hK
      go_simp
      refine Calls.mono (doneP_any f (1, s, ⟨#[]⟩, t) _ y7 (HV.out.keep Y7) HB.out HO1.out.1 HO1.out.2.1 HO1.out.2.2) ?_
      rintro e y8 ⟨v', he, FO, hx⟩
      rw [HDE.out] at he FO
      obtain rfl := he
      obtain ⟨A1, c1, A2, c2, A3, c3, hsh, _, _, _⟩ := id FO
      obtain ⟨n1, hn1⟩ : ∃ n, n = (FA).1.length := ⟨_, rfl⟩
      obtain ⟨n2, hn2⟩ : ∃ n, n = (FA).2.1.length := ⟨_, rfl⟩
      obtain ⟨n3, hn3⟩ : ∃ n, n = (FA).2.2.length := ⟨_, rfl⟩
      rw [← hn1, ← hn2, ← hn3] at hsh
      subst hsh
      have Y8 := Ext.then Y7 hx
      replace BG := Blk.keep BG (hx)
      refine hK _ _ Y8 ?_
      clear K hK hx hn1 hn2 hn3
      repeat (refine wpTO_val (by rfl) ?_; intro K hK; go_big_quiet_op; go_big_quiet_on)
      have q0 := BG.cell 0
      have q1 := BG.cell 1
      have q2 := BG.cell 2
      have f0 := BG.frozen 0
      have f1 := BG.frozen 1
      have f2 := BG.frozen 2
      refine wpTO_do (by rfl) ?_
      intro K hK
      go_simp
      refine hK _ _ (Ext.put (Ext.put (Ext.put Y8 (p := ⟨g, 0, none⟩) hgs (.slice A1 n1 c1)) (p := ⟨g, 1, none⟩) hgs (.slice A2 n2 c2)) (p := ⟨g, 2, none⟩) hgs (.slice A3 n3 c3)) ?_
      clear K hK
      repeat (refine wpTO_val (by rfl) ?_; intro K hK; go_big_quiet_op; go_big_quiet_on)
      refine wpTO_nil ?_
      obtain ⟨gx, _⟩ : ∃ x : Nat, x = 0 := ⟨0, rfl⟩
      refine ⟨rfl, gx, g, A1, n1, c1, A2, n2, c2, A3, n3, c3, rfl, hid (Ext.put (Ext.put (Ext.put Y8 (p := ⟨g, 0, none⟩) hgs (.slice A1 n1 c1)) (p := ⟨g, 1, none⟩) hgs (.slice A2 n2 c2)) (p := ⟨g, 2, none⟩) hgs (.slice A3 n3 c3)), hid ((((BG.set 0 (.slice A1 n1 c1)).set 1 (.slice A2 n2 c2)).set 2 (.slice A3 n3 c3)).cast (by simp)), hid (((FO.putB BG 0 _).putB (BG.set 0 _) 1 _).putB ((BG.set 0 _).set 1 _) 2 _).V⟩
  rintro xa ga A1a n1a c1a A2a n2a c2a A3a n3a c3a y1' ⟨XQ, Ba, Va⟩
  replace X := hid (X.out.then XQ.out)
  replace HV := hid (HV.out.keep XQ.out)
  replace F1 := hid (F1.out.keep XQ.out)
  clear XQ
  clear p0 p1 p2 p0r p1r p2r
  go_wp2_with fail
  refine Calls.mono (fsBegun_any _) ?_
  rintro e w3 ⟨rfl, hx⟩
  replace X := hid (X.out.then hx)
  replace HV := hid (HV.out.keep hx)
  replace F1 := hid (F1.out.keep hx)
  replace Va := hid (Va.out.keep hx)
  replace Ba := hid (Ba.out.keep hx)
  clear hx
  have a0 := Ba.out.cell 0
  have a1 := Ba.out.cell 1
  have a2 := Ba.out.cell 2
  go_wp2_with fail
  refine Calls.mono (read_any FA s _ _ Va.out HBA.out) ?_
  rintro e w4 ⟨he, hx⟩
  obtain rfl : e = .returned (.tuple #[.string t, .int .i64 (0)]) := by rw [he, HQ1.out]; try rfl
  replace X := hid (X.out.then hx)
  replace HV := hid (HV.out.keep hx)
  replace F1 := hid (F1.out.keep hx)
  replace Va := hid (Va.out.keep hx)
  replace Ba := hid (Ba.out.keep hx)
  clear hx he
  clear a0 a1 a2
  have p0 := F1.out.cell 0
  have p1 := F1.out.cell 1
  have p2 := F1.out.cell 2
  go_wp2_with fail
  refine Calls.mono (HRF.out _ _ HV.out) ?_
  rintro e w5 ⟨rfl, hx⟩
  replace X := hid (X.out.then hx)
  replace HV := hid (HV.out.keep hx)
  replace F1 := hid (F1.out.keep hx)
  replace Va := hid (Va.out.keep hx)
  replace Ba := hid (Ba.out.keep hx)
  clear hx p0 p1 p2
  have a0 := Ba.out.cell 0
  have a1 := Ba.out.cell 1
  have a2 := Ba.out.cell 2
  go_wp2_with fail
  refine Calls.mono (HRA.out _ _ Va.out) ?_
  rintro e w6 ⟨rfl, hx⟩
  replace X := hid (X.out.then hx)
  replace Va := hid (Va.out.keep hx)
  replace Ba := hid (Ba.out.keep hx)
  clear hx a0 a1 a2
  have a0 := Ba.out.cell 0
  have a1 := Ba.out.cell 1
  have a2 := Ba.out.cell 2
  go_upto_region 9 with fail
  have a0r := cell_regrown a0
  have a1r := cell_regrown a1
  have a2r := cell_regrown a2
  apply wp_cutFS (F := fun x g A1 n1 c1 A2 n2 c2 A3 n3 c3 w' => Hid (Ext w6 w') ∧ Hid (Blk w' g 25 #[.slice A1 n1 c1, .slice A2 n2 c2, .slice A3 n3 c3]) ∧ Hid (FsV w' (.agg #[.slice A1 n1 c1, .slice A2 n2 c2, .slice A3 n3 c3]) (FB)))
  case h1 =>
    refine wp_region_tree (.one 0 true (.one 1 true (.two 2 7 (.two 3 7 (.one 4 true (.one 5 true (.one 6 true (.one 7 false (.one 8 false (.one 9 true (.nil))))))) (.one 3 false (.one 4 true (.one 5 true (.one 6 true (.one 8 false (.one 9 true (.nil)))))))) (.one 2 false (.one 3 false (.one 4 true (.one 5 true (.one 6 true (.one 8 false (.one 9 true (.nil))))))))))) (by kernel_rfl) (by kernel_rfl) (by rintro _ _ _ _ _ ⟨h, _⟩; cases h) (by kernel_rfl) (by rfl) ?_
    simp only [fillT, List.getD_cons_zero, List.getD_cons_succ]
    have Y0 : Ext w6 w6.drew := (ext_refl w6).draw
    generalize w6.drew = y0 at Y0 ⊢
    repeat (refine wpTO_val (by rfl) ?_; intro K hK; go_big_quiet_op; go_big_quiet_on)
    refine wpTO_two ?_ ?_
    · refine wpTO_do (by rfl) ?_
      intro K hK
      go_simp
      refine Calls.mono (op_any _ _ _ _ _) ?_
      rintro e y1 ⟨rfl, hx⟩
      have Y1 := Ext.then Y0 hx
      refine hK _ _ Y1 ?_
      clear K hK hx
      refine wpTO_two ?_ ?_
      · refine wpTO_do (by rfl) ?_
        intro K hK
        go_simp
        refine Calls.mono (doneP_any FA (4, s, ⟨#[]⟩, ⟨#[]⟩) _ y1 (Va.out.keep Y1) HBA.out HO4.out.1 HO4.out.2.1 HO4.out.2.2) ?_
        rintro e y2 ⟨v', he, FO, hx⟩
        rw [HD4.out] at he FO
        obtain rfl := he
        obtain ⟨A1, c1, A2, c2, A3, c3, hsh, _, _, _⟩ := id FO
        obtain ⟨n1, hn1⟩ : ∃ n, n = (FB).1.length := ⟨_, rfl⟩
        obtain ⟨n2, hn2⟩ : ∃ n, n = (FB).2.1.length := ⟨_, rfl⟩
        obtain ⟨n3, hn3⟩ : ∃ n, n = (FB).2.2.length := ⟨_, rfl⟩
        rw [← hn1, ← hn2, ← hn3] at hsh
        subst hsh
        have Y2 := Ext.then Y1 hx
        refine hK _ _ Y2 ?_
        clear K hK hx hn1 hn2 hn3
        repeat (refine wpTO_val (by rfl) ?_; intro K hK; go_big_quiet_op; go_big_quiet_on)
        refine wpTO_do (by rfl) ?_
        intro K hK
        go_simp
        replace FO := FsO.keep FO (Ext.new (ext_refl y2) (.cells #[.slice none 0 0, .slice none 0 0, .slice none 0 0] 25))
        have BG := Blk.new y2 25 #[.slice none 0 0, .slice none 0 0, .slice none 0 0]
        have Y3 := Ext.new Y2 (.cells #[.slice none 0 0, .slice none 0 0, .slice none 0 0] 25)
        have hgs := (Y2).size
        obtain ⟨g, hg⟩ : ∃ g, g = (y2 : World).heap.size := ⟨_, rfl⟩
        rw [← hg] at BG hgs ⊢
        generalize (y2 : World).alloc (.cells #[.slice none 0 0, .slice none 0 0, .slice none 0 0] 25) = y3 at *
        refine hK _ _ Y3 ?_
        clear K hK hg
        have q0 := BG.cell 0
        have q1 := BG.cell 1
        have q2 := BG.cell 2
        have f0 := BG.frozen 0
        have f1 := BG.frozen 1
        have f2 := BG.frozen 2
        refine wpTO_do (by rfl) ?_
        intro K hK
        go_simp
        refine hK _ _ (Ext.put (Ext.put (Ext.put Y3 (p := ⟨g, 0, none⟩) hgs (.slice A1 n1 c1)) (p := ⟨g, 1, none⟩) hgs (.slice A2 n2 c2)) (p := ⟨g, 2, none⟩) hgs (.slice A3 n3 c3)) ?_
        clear K hK
        repeat (refine wpTO_val (by rfl) ?_; intro K hK; go_big_quiet_op; go_big_quiet_on)
        refine wpTO_nil ?_
        obtain ⟨gx, _⟩ : ∃ x : Nat, x = 0 := ⟨0, rfl⟩
        refine ⟨rfl, gx, g, A1, n1, c1, A2, n2, c2, A3, n3, c3, rfl, hid (Ext.put (Ext.put (Ext.put Y3 (p := ⟨g, 0, none⟩) hgs (.slice A1 n1 c1)) (p := ⟨g, 1, none⟩) hgs (.slice A2 n2 c2)) (p := ⟨g, 2, none⟩) hgs (.slice A3 n3 c3)), hid ((((BG.set 0 (.slice A1 n1 c1)).set 1 (.slice A2 n2 c2)).set 2 (.slice A3 n3 c3)).cast (by simp)), hid (((FO.putB BG 0 _).putB (BG.set 0 _) 1 _).putB ((BG.set 0 _).set 1 _) 2 _).V⟩
      · refine wpTO_do (by rfl) ?_
        intro K hK
        go_simp
        have BG := Blk.new y1 25 #[.slice none 0 0, .slice none 0 0, .slice none 0 0]
        have Y4 := Ext.new Y1 (.cells #[.slice none 0 0, .slice none 0 0, .slice none 0 0] 25)
        have hgs := (Y1).size
        obtain ⟨g, hg⟩ : ∃ g, g = (y1 : World).heap.size := ⟨_, rfl⟩
        rw [← hg] at BG hgs ⊢
        generalize (y1 : World).alloc (.cells #[.slice none 0 0, .slice none 0 0, .slice none 0 0] 25) = y4 at *
        refine hK _ _ Y4 ?_
        clear K hK hg
        refine wpTO_do (by rfl) ?_
        intro K hK
        go_simp
        refine Calls.mono (doneP_any FA (4, s, ⟨#[]⟩, ⟨#[]⟩) _ y4 (Va.out.keep Y4) HBA.out HO4.out.1 HO4.out.2.1 HO4.out.2.2) ?_
        rintro e y5 ⟨v', he, FO, hx⟩
        rw [HD4.out] at he FO
        obtain rfl := he
        obtain ⟨A1, c1, A2, c2, A3, c3, hsh, _, _, _⟩ := id FO
        obtain ⟨n1, hn1⟩ : ∃ n, n = (FB).1.length := ⟨_, rfl⟩
        obtain ⟨n2, hn2⟩ : ∃ n, n = (FB).2.1.length := ⟨_, rfl⟩
        obtain ⟨n3, hn3⟩ : ∃ n, n = (FB).2.2.length := ⟨_, rfl⟩
        rw [← hn1, ← hn2, ← hn3] at hsh
        subst hsh
        have Y5 := Ext.then Y4 hx
        replace BG := Blk.keep BG (hx)
        refine hK _ _ Y5 ?_
        clear K hK hx hn1 hn2 hn3
        repeat (refine wpTO_val (by rfl) ?_; intro K hK; go_big_quiet_op; go_big_quiet_on)
        have q0 := BG.cell 0
        have q1 := BG.cell 1
        have q2 := BG.cell 2
        have f0 := BG.frozen 0
        have f1 := BG.frozen 1
        have f2 := BG.frozen 2
        refine wpTO_do (by rfl) ?_
        intro K hK
        go_simp
        refine hK _ _ (Ext.put (Ext.put (Ext.put Y5 (p := ⟨g, 0, none⟩) hgs (.slice A1 n1 c1)) (p := ⟨g, 1, none⟩) hgs (.slice A2 n2 c2)) (p := ⟨g, 2, none⟩) hgs (.slice A3 n3 c3)) ?_
        clear K hK
        repeat (refine wpTO_val (by rfl) ?_; intro K hK; go_big_quiet_op; go_big_quiet_on)
        refine wpTO_nil ?_
        obtain ⟨gx, _⟩ : ∃ x : Nat, x = 0 := ⟨0, rfl⟩
        refine ⟨rfl, gx, g, A1, n1, c1, A2, n2, c2, A3, n3, c3, rfl, hid (Ext.put (Ext.put (Ext.put Y5 (p := ⟨g, 0, none⟩) hgs (.slice A1 n1 c1)) (p := ⟨g, 1, none⟩) hgs (.slice A2 n2 c2)) (p := ⟨g, 2, none⟩) hgs (.slice A3 n3 c3)), hid ((((BG.set 0 (.slice A1 n1 c1)).set 1 (.slice A2 n2 c2)).set 2 (.slice A3 n3 c3)).cast (by simp)), hid (((FO.putB BG 0 _).putB (BG.set 0 _) 1 _).putB ((BG.set 0 _).set 1 _) 2 _).V⟩
    · refine wpTO_do (by rfl) ?_
      intro K hK
      go_simp
      have BG := Blk.new y0 25 #[.slice none 0 0, .slice none 0 0, .slice none 0 0]
      have Y6 := Ext.new Y0 (.cells #[.slice none 0 0, .slice none 0 0, .slice none 0 0] 25)
      have hgs := (Y0).size
      obtain ⟨g, hg⟩ : ∃ g, g = (y0 : World).heap.size := ⟨_, rfl⟩
      rw [← hg] at BG hgs ⊢
      generalize (y0 : World).alloc (.cells #[.slice none 0 0, .slice none 0 0, .slice none 0 0] 25) = y6 at *
      refine hK _ _ Y6 ?_
      clear K hK hg
      refine wpTO_do (by rfl) ?_
      intro K hK
      go_simp
      refine Calls.mono (op_any _ _ _ _ _) ?_
      rintro e y7 ⟨rfl, hx⟩
      have Y7 := Ext.then Y6 hx
      replace BG := Blk.keep BG (hx)
      refine hK _ _ Y7 ?_
      clear K hK hx
      refine wpTO_do (by rfl) ?_
      intro K hK
      go_simp
      refine Calls.mono (doneP_any FA (4, s, ⟨#[]⟩, ⟨#[]⟩) _ y7 (Va.out.keep Y7) HBA.out HO4.out.1 HO4.out.2.1 HO4.out.2.2) ?_
      rintro e y8 ⟨v', he, FO, hx⟩
      rw [HD4.out] at he FO
      obtain rfl := he
      obtain ⟨A1, c1, A2, c2, A3, c3, hsh, _, _, _⟩ := id FO
      obtain ⟨n1, hn1⟩ : ∃ n, n = (FB).1.length := ⟨_, rfl⟩
      obtain ⟨n2, hn2⟩ : ∃ n, n = (FB).2.1.length := ⟨_, rfl⟩
      obtain ⟨n3, hn3⟩ : ∃ n, n = (FB).2.2.length := ⟨_, rfl⟩
      rw [← hn1, ← hn2, ← hn3] at hsh
      subst hsh
      have Y8 := Ext.then Y7 hx
      replace BG := Blk.keep BG (hx)
      refine hK _ _ Y8 ?_
      clear K hK hx hn1 hn2 hn3
      repeat (refine wpTO_val (by rfl) ?_; intro K hK; go_big_quiet_op; go_big_quiet_on)
      have q0 := BG.cell 0
      have q1 := BG.cell 1
      have q2 := BG.cell 2
      have f0 := BG.frozen 0
      have f1 := BG.frozen 1
      have f2 := BG.frozen 2
      refine wpTO_do (by rfl) ?_
      intro K hK
      go_simp
      refine hK _ _ (Ext.put (Ext.put (Ext.put Y8 (p := ⟨g, 0, none⟩) hgs (.slice A1 n1 c1)) (p := ⟨g, 1, none⟩) hgs (.slice A2 n2 c2)) (p := ⟨g, 2, none⟩) hgs (.slice A3 n3 c3)) ?_
      clear K hK
      repeat (refine wpTO_val (by rfl) ?_; intro K hK; go_big_quiet_op; go_big_quiet_on)
      refine wpTO_nil ?_
      obtain ⟨gx, _⟩ : ∃ x : Nat, x = 0 := ⟨0, rfl⟩
      refine ⟨rfl, gx, g, A1, n1, c1, A2, n2, c2, A3, n3, c3, rfl, hid (Ext.put (Ext.put (Ext.put Y8 (p := ⟨g, 0, none⟩) hgs (.slice A1 n1 c1)) (p := ⟨g, 1, none⟩) hgs (.slice A2 n2 c2)) (p := ⟨g, 2, none⟩) hgs (.slice A3 n3 c3)), hid ((((BG.set 0 (.slice A1 n1 c1)).set 1 (.slice A2 n2 c2)).set 2 (.slice A3 n3 c3)).cast (by simp)), hid (((FO.putB BG 0 _).putB (BG.set 0 _) 1 _).putB ((BG.set 0 _).set 1 _) 2 _).V⟩
  rintro xb gb A1b n1b c1b A2b n2b c2b A3b n3b c3b y2' ⟨XQ, Bb, Vb⟩
  replace X := hid (X.out.then XQ.out)
  clear XQ
  clear a0 a1 a2 a0r a1r a2r
  have b0 := Bb.out.cell 0
  have b1 := Bb.out.cell 1
  have b2 := Bb.out.cell 2
  go_wp2_with fail
  refine Calls.mono (read_any FB s _ _ Vb.out HBB.out) ?_
  rintro e w10 ⟨he, hx⟩
  obtain rfl : e = .returned (.tuple #[.string ByteArray.empty, .int .i64 (5)]) := by rw [he, HQ3.out]; try rfl
  replace X := hid (X.out.then hx)
  replace Vb := hid (Vb.out.keep hx)
  replace Bb := hid (Bb.out.keep hx)
  clear hx he
  clear b0 b1 b2
  have b0 := Bb.out.cell 0
  have b1 := Bb.out.cell 1
  have b2 := Bb.out.cell 2
  go_wp2_with fail
  refine Calls.mono (HRB.out _ _ Vb.out) ?_
  rintro e w11 ⟨rfl, hx⟩
  replace X := hid (X.out.then hx)
  clear hx
  go_wp2
  go_returns
  exact ⟨rfl, X.out⟩
theorem fsReads_any (f : Fs.FSy) (s t o : ByteArray) (v : Value) (w : World) (hv : FsV w v f) (hb : Fs.FsB f) (hs : s.size ≤ 140737488355328) (ht : t.size ≤ 140737488355328) :
    Calls Tryd.prog 5 #[v, .string s, .string t, .string o] w fun e w' => e = .returned (.bool true) ∧ Ext w w' := by
  by_cases h0 : (Fs.don f (1, s, ⟨#[]⟩, t)).2 = 0
  · by_cases ho : o = s
    · exact fsReads_same f s t o v w hv hb hs ht h0 ho
    · exact fsReads_not f s t o v w hv hb hs ht h0 ho
  · exact fsReads_err f s t o v w hv hb hs ht h0
end Go.Proofs.YtolhifnlahllnaaDoor
