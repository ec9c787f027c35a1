/- Files: the law FsGood: walk (printed by gen_ftr.py). -/
import Derived.Test.YtolhifnlahllnaaDoorFzf
namespace Hy.Fs
open Go
theorem e_size : (⟨#[]⟩ : ByteArray).size ≤ 140737488355328 := by decide
theorem emp_e : emp (⟨#[]⟩ : ByteArray) = true := by decide +kernel
theorem don_err {f : FSy} {o : Opn} (h : (don f o).2 ≠ 0) : (don f o).1 = fs0 := by
  by_cases h1 : fsck f = 0
  · by_cases h2 : opck o = 0
    · rw [don_raw h1 h2] at h ⊢
      unfold raw wrt at h ⊢
      (repeat' split at h) <;> first | (exact absurd rfl h) | skip
      all_goals simp_all
    · rw [don_form h1 h2]
  · rw [don_bad h1]
theorem reads_law {f : FSy} {s t : ByteArray} (h0 : (don f (1, s, ⟨#[]⟩, t)).2 = 0) :
    ∃ b, rdf (don f (1, s, ⟨#[]⟩, t)).1 s = (t, 0) ∧ don (don f (1, s, ⟨#[]⟩, t)).1 (4, s, ⟨#[]⟩, ⟨#[]⟩) = (b, 0) ∧ rdf b s = (ByteArray.empty, 5) ∧ ∀ o, o ≠ s → rdf (don f (1, s, ⟨#[]⟩, t)).1 o = rdf f o ∧ rdf b o = rdf f o := by
  obtain ⟨hf, ho, e, ha⟩ := don_ok h0
  have hk := opck_zero ho
  have hs := hk.2.2.1 (show (1 : Int) ≠ 5 by decide)
  have ht := hk.2.2.2.2
  have e2 : raw f (1, s, ⟨#[]⟩, t) = wrt f s t := by unfold raw; rw [if_pos rfl]
  rw [e] at ha h0 ⊢
  rw [e2] at ha h0 ⊢
  obtain ⟨_, ⟨u, hu⟩, hother⟩ := wrt_ok hf hs ht h0
  obtain ⟨a, hA⟩ : ∃ a, a = (wrt f s t).1 := ⟨_, rfl⟩
  rw [← hA] at ha hu hother ⊢
  have hn : ¬ nof a.2.1 s < 0 := fun h => by unfold lv at hu; rw [if_pos h] at hu; cases hu
  have ho4 : opck (4, s, ⟨#[]⟩, ⟨#[]⟩) = 0 := by
    unfold opck
    simp only [emp_e]
    rw [if_neg (by decide), if_neg (by simp; exact hs), if_neg (by decide)]
  have e4 : don a (4, s, ⟨#[]⟩, ⟨#[]⟩) = (swp (a.1, wout a.2.1 s, a.2.2), 0) := by
    rw [don_raw (ok_iff.2 ha) ho4]
    unfold raw
    simp only
    rw [if_neg (by decide), if_neg (by decide), if_neg hn, if_neg (by decide), if_neg (by decide)]
  have hb : Ok (swp (a.1, wout a.2.1 s, a.2.2)) := by
    have := (don_ok (f := a) (o := (4, s, ⟨#[]⟩, ⟨#[]⟩)) (by rw [e4])).2.2.2
    rwa [e4] at this
  have hg : Good a.1.length (wout a.2.1 s) := wout_good ha.dir s
  have hlv : ∀ o, lv (swp (a.1, wout a.2.1 s, a.2.2)) o = lv (a.1, wout a.2.1 s, a.2.2) o := fun o => lv_swp (f := (a.1, wout a.2.1 s, a.2.2)) hg o
  refine ⟨_, ?_, e4, ?_, fun o hne => ?_⟩
  · rw [lv_rdf ha, hu]
  · rw [lv_rdf hb, hlv]
    unfold lv
    simp only
    rw [nof_wout_same, if_pos (by decide)]
  · have h1 : rdf a o = rdf f o := by rw [lv_rdf ha, lv_rdf hf, hother o hne]
    refine ⟨h1, ?_⟩
    rw [lv_rdf hb, hlv, lv_rdf hf, ← hother o hne]
    unfold lv
    simp only
    rw [nof_wout_other ha.dir hne]
def gOps (s t : ByteArray) : List Opn := [(1, s, ⟨#[]⟩, t), (2, s, ⟨#[]⟩, ⟨#[]⟩), (5, ⟨#[]⟩, ⟨#[]⟩, ⟨#[]⟩)]
theorem good_law {f : FSy} {s t : ByteArray} (h0 : (ply f (gOps s t)).2 = 0) (m k : Nat) :
    ∃ b, crs (ply f (gOps s t)).1 m = (b, 0) ∧ rdf b s = (t, 0) ∧ crs b k = (b, 0) ∧ fsck b = 0 := by
  have hfc : fsck f = 0 := by
    by_cases h : fsck f = 0
    · exact h
    · rw [ply_bad h] at h0; exact absurd h0 h
  have hlen : ¬ 64 < (gOps s t).length := by simp [gOps]
  rw [ply_run hfc hlen] at h0 ⊢
  have hf := ok_iff.1 hfc
  -- the first op
  have h1 : (don f (1, s, ⟨#[]⟩, t)).2 = 0 := by
    unfold gOps run at h0
    by_cases h : (don f (1, s, ⟨#[]⟩, t)).2 = 0
    · exact h
    · rw [if_pos h] at h0; exact absurd h0 h
  have r1 : run f (gOps s t) = run (don f (1, s, ⟨#[]⟩, t)).1 [(2, s, ⟨#[]⟩, ⟨#[]⟩), (5, ⟨#[]⟩, ⟨#[]⟩, ⟨#[]⟩)] := by
    unfold gOps; rw [run, if_neg (by omega)]
  obtain ⟨_, ho, e, ha⟩ := don_ok h1
  have hk := opck_zero ho
  have e2 : raw f (1, s, ⟨#[]⟩, t) = wrt f s t := by unfold raw; rw [if_pos rfl]
  rw [r1, e, e2] at h0 ⊢
  rw [e, e2] at ha h1
  obtain ⟨_, ⟨u, hu⟩, _⟩ := wrt_ok hf (hk.2.2.1 (show (1 : Int) ≠ 5 by decide)) hk.2.2.2.2 h1
  obtain ⟨a, hA⟩ : ∃ a, a = (wrt f s t).1 := ⟨_, rfl⟩
  rw [← hA] at ha hu h0 ⊢
  have hn : ¬ nof a.2.1 s < 0 := fun h => by unfold lv at hu; rw [if_pos h] at hu; cases hu
  obtain ⟨j, hj⟩ : ∃ j : Nat, nof a.2.1 s = (j : Int) := ⟨(nof a.2.1 s).toNat, by omega⟩
  -- the second one
  have h2 : (don a (2, s, ⟨#[]⟩, ⟨#[]⟩)).2 = 0 := by
    unfold run at h0
    by_cases h : (don a (2, s, ⟨#[]⟩, ⟨#[]⟩)).2 = 0
    · exact h
    · rw [if_pos h] at h0; exact absurd h0 h
  rw [run, if_neg (fun h => h h2)] at h0 ⊢
  obtain ⟨_, ho2, e3, hb⟩ := don_ok h2
  have e4 : raw a (2, s, ⟨#[]⟩, ⟨#[]⟩) = (swp (synL a.1 j, a.2.1, a.2.2), 0) := by
    unfold raw
    simp only
    rw [if_neg (by decide), if_neg (by decide), if_neg hn, if_pos trivial, hj, Int.toNat_natCast]
  rw [e3, e4] at h0 hb ⊢
  have hg : Good (synL a.1 j).length a.2.1 := by rw [synL_len]; exact ha.dir
  have hlb : lv (swp (synL a.1 j, a.2.1, a.2.2)) s = some (t, t) := by
    rw [lv_swp (f := (synL a.1 j, a.2.1, a.2.2)) hg]
    unfold lv at hu ⊢
    simp only
    rw [if_neg hn] at hu ⊢
    rw [hj, Int.toNat_natCast] at hu ⊢
    unfold synL
    rw [List.getElem?_modify, hu]; simp
  obtain ⟨b, hB⟩ : ∃ b, b = swp (synL a.1 j, a.2.1, a.2.2) := ⟨_, rfl⟩
  rw [← hB] at hb h0 hlb ⊢
  -- the third one
  have h3 : (don b (5, ⟨#[]⟩, ⟨#[]⟩, ⟨#[]⟩)).2 = 0 := by
    unfold run at h0
    by_cases h : (don b (5, ⟨#[]⟩, ⟨#[]⟩, ⟨#[]⟩)).2 = 0
    · exact h
    · rw [if_pos h] at h0; exact absurd h0 h
  rw [run, if_neg (fun h => h h3)] at h0 ⊢
  obtain ⟨_, ho3, e5, hc⟩ := don_ok h3
  have e6 : raw b (5, ⟨#[]⟩, ⟨#[]⟩, ⟨#[]⟩) = (swp (b.1, b.2.1, b.2.1), 0) := by
    unfold raw
    simp only
    rw [if_neg (by decide), if_pos trivial]
  rw [e5, e6] at hc ⊢
  simp only [run] at hc ⊢
  have hlc : lv (swp (b.1, b.2.1, b.2.1)) s = some (t, t) := by
    rw [lv_swp (f := (b.1, b.2.1, b.2.1)) hb.dir]; exact hlb
  have hsame : (swp (b.1, b.2.1, b.2.1)).2.1 = (swp (b.1, b.2.1, b.2.1)).2.2 := by rw [swp_eq]
  obtain ⟨c, hC⟩ : ∃ c, c = swp (b.1, b.2.1, b.2.1) := ⟨_, rfl⟩
  rw [← hC] at hc hlc hsame ⊢
  have hcr := crs_fine hc m
  have hz : (crs c m).2 = 0 := by rw [crs_ok (ok_iff.2 hc)]
  refine ⟨(crs c m).1, Prod.ext rfl hz, ?_, crs_twice hc m k, ok_iff.2 hcr⟩
  rw [lv_rdf hcr, crs_lv hc]
  have hcd : crd c m = c.2.1 := by unfold crd; split; rfl; exact hsame.symm
  have hl2 : lv (crn m 0 c.1, crd c m, crd c m) s = some (t, t) := by
    rw [hcd]
    unfold lv at hlc ⊢
    simp only
    by_cases hn' : nof c.2.1 s < 0
    · rw [if_pos hn'] at hlc; cases hlc
    · rw [if_neg hn'] at hlc ⊢
      obtain ⟨hi, hv⟩ := List.getElem?_eq_some_iff.1 hlc
      rw [crn_at m c.1 0 _ hi, hv]
      split <;> rfl
  rw [hl2]
end Hy.Fs
namespace Hy.Fs
open Go
theorem xor_max (m : Nat) (hm : m < 18446744073709551616) : bits .xor .u64 IntKind.u64.max (m : Int) = ((18446744073709551615 - m : Nat) : Int) := by
  have e : BitVec.ofInt 64 (IntKind.u64.max) = BitVec.allOnes 64 := by decide
  show IntKind.u64.wrap ((BitVec.ofInt 64 IntKind.u64.max ^^^ BitVec.ofInt 64 (m : Int)).toNat : Int) = _
  rw [e, BitVec.allOnes_xor, BitVec.toNat_not, BitVec.ofInt_natCast, BitVec.toNat_ofNat, Nat.mod_eq_of_lt (a := m) (by simpa using hm), IntKind.wrap_u64]
  omega
theorem run_err {l : List Opn} : ∀ {f : FSy}, (run f l).2 ≠ 0 → (run f l).1 = fs0 := by
  induction l with
  | nil => intro f h; exact absurd rfl h
  | cons o r ih =>
    intro f h
    simp only [run] at h ⊢
    by_cases hd : (don f o).2 ≠ 0
    · rw [if_pos hd]
    · rw [if_neg hd] at h ⊢; exact ih h
theorem ply_err {f : FSy} {l : List Opn} (h : (ply f l).2 ≠ 0) : (ply f l).1 = fs0 := by
  by_cases h1 : fsck f = 0
  · by_cases h2 : 64 < l.length
    · rw [ply_many h1 h2]
    · rw [ply_run h1 h2] at h ⊢; exact run_err h
  · rw [ply_bad h1]
end Hy.Fs
namespace Go.Proofs.YtolhifnlahllnaaDoor
open Go.RowKit Hy
set_option maxHeartbeats 3200000 in
set_option maxRecDepth 100000 in
theorem fsGood_err (f : Fs.FSy) (s t : ByteArray) (mk : Nat) (v : Value) (w : World) (hv : FsV w v f) (hb : Fs.FsB f) (hs : s.size ≤ 140737488355328) (ht : t.size ≤ 140737488355328) (hmk : mk < 18446744073709551616) (h0 : (Fs.ply f (Fs.gOps s t)).2 ≠ 0) :
    Calls Tryd.prog 6 #[v, .string s, .string t, .int .u64 mk] w fun e w' => e = .returned (.bool true) ∧ Ext w w' := by
  have HB := hid hb
  have HMK := hid hmk
  have HOB := hid (show ∀ o ∈ Fs.gOps s t, Fs.OpB o by
    intro o ho
    simp only [Fs.gOps, List.mem_cons, List.not_mem_nil, or_false] at ho
    rcases ho with rfl | rfl | rfl
    · exact ⟨hs, Fs.e_size, ht⟩
    · exact ⟨hs, Fs.e_size, Fs.e_size⟩
    · exact ⟨Fs.e_size, Fs.e_size, Fs.e_size⟩)
  have HV := hid hv
  obtain ⟨NA, nn, nc, DA, dn, dc, SA, sn, sc, rfl⟩ := hv.shape
  have hE1 : (Fs.ply f (Fs.gOps s t)).1 = Fs.fs0 := Fs.ply_err h0
  obtain ⟨E, hE⟩ : ∃ E, E = (Fs.ply f (Fs.gOps s t)).2 := ⟨_, rfl⟩
  obtain ⟨FA, hFA⟩ : ∃ F, F = Fs.fs0 := ⟨_, rfl⟩
  have HDE := hid (show Fs.ply f (Fs.gOps s t) = (FA, E) from Prod.ext (by rw [hE1, hFA]) hE.symm)
  rw [← hE] at h0
  have HFA := hid hFA
  have e2 : ((E : Int) != 0) = true := by simp; omega
  clear hv hb hs ht hmk h0 hE hE1 hFA
  go_enter Tryd.func6, Tryd.ntmps6
  go_upto_region 1 with fail
  refine wp_gen (fun w' => Ext w w' ∧ Blk w' w.heap.size 25 #[.slice NA nn nc, .slice DA dn dc, .slice SA sn sc]) ⟨(ext_refl _).new _, Blk.new _ _ _⟩ ?_
  rintro wz ⟨B0, B1⟩
  have X : Hid (Ext w wz) := hid B0
  have F1 := hid B1
  replace HV := hid (HV.out.keep B0)
  clear B0 B1
  have p0 := F1.out.cell 0
  have p1 := F1.out.cell 1
  have p2 := F1.out.cell 2
  go_upto_region 1 with fail
  have p0r := cell_regrown p0
  have p1r := cell_regrown p1
  have p2r := cell_regrown p2
  apply wp_cutFS (F := fun x g A1 n1 c1 A2 n2 c2 A3 n3 c3 w' => Hid (Ext wz w') ∧ Hid (Blk w' g 25 #[.slice A1 n1 c1, .slice A2 n2 c2, .slice A3 n3 c3]) ∧ Hid (FsV w' (.agg #[.slice A1 n1 c1, .slice A2 n2 c2, .slice A3 n3 c3]) (FA)))
  case h1 =>
    refine wp_region_tree (.one 0 true (.one 1 true (.one 2 true (.one 4 true (.two 3 12 (.two 5 12 (.two 6 12 (.two 7 12 (.two 8 12 (.one 9 true (.one 10 true (.one 11 true (.one 12 false (.one 13 false (.one 14 true (.nil))))))) (.one 8 false (.one 9 true (.one 10 true (.one 11 true (.one 13 false (.one 14 true (.nil)))))))) (.one 7 false (.one 8 false (.one 9 true (.one 10 true (.one 11 true (.one 13 false (.one 14 true (.nil))))))))) (.one 6 false (.one 7 false (.one 8 false (.one 9 true (.one 10 true (.one 11 true (.one 13 false (.one 14 true (.nil)))))))))) (.one 5 false (.one 6 false (.one 7 false (.one 8 false (.one 9 true (.one 10 true (.one 11 true (.one 13 false (.one 14 true (.nil))))))))))) (.one 3 false (.one 5 false (.one 6 false (.one 7 false (.one 8 false (.one 9 true (.one 10 true (.one 11 true (.one 13 false (.one 14 true (.nil)))))))))))))))) (by kernel_rfl) (by kernel_rfl) (by rintro _ _ _ _ _ ⟨h, _⟩; cases h) (by kernel_rfl) (by rfl) ?_
    simp only [fillT, List.getD_cons_zero, List.getD_cons_succ]
    have Y0 : Ext wz wz.drew := (ext_refl wz).draw
    generalize wz.drew = y0 at Y0 ⊢
    repeat (refine wpTO_val (by rfl) ?_; intro K hK; go_big_quiet_op; go_big_quiet_on)
    refine wpTO_two ?_ ?_
    · refine wpTO_do (by rfl) ?_
      intro K hK
      go_simp
      refine Calls.mono (op_any _ _ _ _ _) ?_
      rintro e y1 ⟨rfl, hx⟩
      have Y1 := Ext.then Y0 hx
      refine hK _ _ Y1 ?_
      clear K hK hx
      refine wpTO_two ?_ ?_
      · refine wpTO_do (by rfl) ?_
        intro K hK
        go_simp
        refine Calls.mono (op_any _ _ _ _ _) ?_
        rintro e y2 ⟨rfl, hx⟩
        have Y2 := Ext.then Y1 hx
        refine hK _ _ Y2 ?_
        clear K hK hx
        refine wpTO_two ?_ ?_
        · refine wpTO_do (by rfl) ?_
          intro K hK
          go_simp
          refine Calls.mono (op_any _ _ _ _ _) ?_
          rintro e y3 ⟨rfl, hx⟩
          have Y3 := Ext.then Y2 hx
          refine hK _ _ Y3 ?_
          clear K hK hx
          refine wpTO_two ?_ ?_
          · refine wpTO_do (by rfl) ?_
            intro K hK
            go_simp
            have RL : Rd (y3.alloc (.cells #[.int .i64 1, .string s, .string ⟨#[]⟩, .string t, .int .i64 2, .string s, .string ⟨#[]⟩, .string ⟨#[]⟩, .int .i64 5, .string ⟨#[]⟩, .string ⟨#[]⟩, .string ⟨#[]⟩] 27)) (some ⟨y3.heap.size, 0, none⟩) (Fs.ops (Fs.gOps s t)) := rd_lit rfl rfl
            have Y4 := Ext.new Y3 (.cells #[.int .i64 1, .string s, .string ⟨#[]⟩, .string t, .int .i64 2, .string s, .string ⟨#[]⟩, .string ⟨#[]⟩, .int .i64 5, .string ⟨#[]⟩, .string ⟨#[]⟩, .string ⟨#[]⟩] 27)
            generalize y3.alloc (.cells #[.int .i64 1, .string s, .string ⟨#[]⟩, .string t, .int .i64 2, .string s, .string ⟨#[]⟩, .string ⟨#[]⟩, .int .i64 5, .string ⟨#[]⟩, .string ⟨#[]⟩, .string ⟨#[]⟩] 27) = y4 at *
            generalize y3.heap.size = gx at *
            refine hK _ _ Y4 ?_
            clear K hK
            refine wpTO_two ?_ ?_
            · refine wpTO_do (by rfl) ?_
              intro K hK
              go_simp
              refine Calls.mono (play_any f (Fs.gOps s t) _ 3 3 _ y4 (HV.out.keep Y4) HB.out rfl RL (by decide) HOB.out) ?_
              rintro e y5 ⟨v', he, FO, hx⟩
              rw [HDE.out] at he FO
              obtain rfl := he
              obtain ⟨A1, c1, A2, c2, A3, c3, hsh, _, _, _⟩ := id FO
              obtain ⟨n1, hn1⟩ : ∃ n, n = (FA).1.length := ⟨_, rfl⟩
              obtain ⟨n2, hn2⟩ : ∃ n, n = (FA).2.1.length := ⟨_, rfl⟩
              obtain ⟨n3, hn3⟩ : ∃ n, n = (FA).2.2.length := ⟨_, rfl⟩
              rw [← hn1, ← hn2, ← hn3] at hsh
              subst hsh
              have Y5 := Ext.then Y4 hx
              replace RL := Rd.keep RL (hx)
              refine hK _ _ Y5 ?_
              clear K hK hx hn1 hn2 hn3
              repeat (refine wpTO_val (by rfl) ?_; intro K hK; go_big_quiet_op; go_big_quiet_on)
              refine wpTO_do (by rfl) ?_
              intro K hK
              go_simp
              replace RL := Rd.keep RL (Ext.new (ext_refl y5) (.cells #[.slice none 0 0, .slice none 0 0, .slice none 0 0] 25))
              replace FO := FsO.keep FO (Ext.new (ext_refl y5) (.cells #[.slice none 0 0, .slice none 0 0, .slice none 0 0] 25))
              have BG := Blk.new y5 25 #[.slice none 0 0, .slice none 0 0, .slice none 0 0]
              have Y6 := Ext.new Y5 (.cells #[.slice none 0 0, .slice none 0 0, .slice none 0 0] 25)
              have hgs := (Y5).size
              obtain ⟨g, hg⟩ : ∃ g, g = (y5 : World).heap.size := ⟨_, rfl⟩
              rw [← hg] at BG hgs ⊢
              generalize (y5 : World).alloc (.cells #[.slice none 0 0, .slice none 0 0, .slice none 0 0] 25) = y6 at *
              refine hK _ _ Y6 ?_
              clear K hK hg
              have q0 := BG.cell 0
              have q1 := BG.cell 1
              have q2 := BG.cell 2
              have f0 := BG.frozen 0
              have f1 := BG.frozen 1
              have f2 := BG.frozen 2
              refine wpTO_do (by rfl) ?_
              intro K hK
              go_simp
              refine hK _ _ (Ext.put (Ext.put (Ext.put Y6 (p := ⟨g, 0, none⟩) hgs (.slice A1 n1 c1)) (p := ⟨g, 1, none⟩) hgs (.slice A2 n2 c2)) (p := ⟨g, 2, none⟩) hgs (.slice A3 n3 c3)) ?_
              clear K hK
              repeat (refine wpTO_val (by rfl) ?_; intro K hK; go_big_quiet_op; go_big_quiet_on)
              refine wpTO_nil ?_
              refine ⟨rfl, gx, g, A1, n1, c1, A2, n2, c2, A3, n3, c3, rfl, hid (Ext.put (Ext.put (Ext.put Y6 (p := ⟨g, 0, none⟩) hgs (.slice A1 n1 c1)) (p := ⟨g, 1, none⟩) hgs (.slice A2 n2 c2)) (p := ⟨g, 2, none⟩) hgs (.slice A3 n3 c3)), hid ((((BG.set 0 (.slice A1 n1 c1)).set 1 (.slice A2 n2 c2)).set 2 (.slice A3 n3 c3)).cast (by simp)), hid (((FO.putB BG 0 _).putB (BG.set 0 _) 1 _).putB ((BG.set 0 _).set 1 _) 2 _).V⟩
            · refine wpTO_do (by rfl) ?_
              intro K hK
              go_simp
              replace RL := Rd.keep RL (Ext.new (ext_refl y4) (.cells #[.slice none 0 0, .slice none 0 0, .slice none 0 0] 25))
              have BG := Blk.new y4 25 #[.slice none 0 0, .slice none 0 0, .slice none 0 0]
              have Y7 := Ext.new Y4 (.cells #[.slice none 0 0, .slice none 0 0, .slice none 0 0] 25)
              have hgs := (Y4).size
              obtain ⟨g, hg⟩ : ∃ g, g = (y4 : World).heap.size := ⟨_, rfl⟩
              rw [← hg] at BG hgs ⊢
              generalize (y4 : World).alloc (.cells #[.slice none 0 0, .slice none 0 0, .slice none 0 0] 25) = y7 at *
              refine hK _ _ Y7 ?_
              clear K hK hg
              refine wpTO_do (by rfl) ?_
              intro K hK
              go_simp
              refine Calls.mono (play_any f (Fs.gOps s t) _ 3 3 _ y7 (HV.out.keep Y7) HB.out rfl RL (by decide) HOB.out) ?_
              rintro e y8 ⟨v', he, FO, hx⟩
              rw [HDE.out] at he FO
              obtain rfl := he
              obtain ⟨A1, c1, A2, c2, A3, c3, hsh, _, _, _⟩ := id FO
              obtain ⟨n1, hn1⟩ : ∃ n, n = (FA).1.length := ⟨_, rfl⟩
              obtain ⟨n2, hn2⟩ : ∃ n, n = (FA).2.1.length := ⟨_, rfl⟩
              obtain ⟨n3, hn3⟩ : ∃ n, n = (FA).2.2.length := ⟨_, rfl⟩
              rw [← hn1, ← hn2, ← hn3] at hsh
              subst hsh
              have Y8 := Ext.then Y7 hx
              replace RL := Rd.keep RL (hx)
              replace BG := Blk.keep BG (hx)
              refine hK _ _ Y8 ?_
              clear K hK hx hn1 hn2 hn3
              repeat (refine wpTO_val (by rfl) ?_; intro K hK; go_big_quiet_op; go_big_quiet_on)
              have q0 := BG.cell 0
              have q1 := BG.cell 1
              have q2 := BG.cell 2
              have f0 := BG.frozen 0
              have f1 := BG.frozen 1
              have f2 := BG.frozen 2
              refine wpTO_do (by rfl) ?_
              intro K hK
              go_simp
              refine hK _ _ (Ext.put (Ext.put (Ext.put Y8 (p := ⟨g, 0, none⟩) hgs (.slice A1 n1 c1)) (p := ⟨g, 1, none⟩) hgs (.slice A2 n2 c2)) (p := ⟨g, 2, none⟩) hgs (.slice A3 n3 c3)) ?_
              clear K hK
              repeat (refine wpTO_val (by rfl) ?_; intro K hK; go_big_quiet_op; go_big_quiet_on)
              refine wpTO_nil ?_
              refine ⟨rfl, gx, g, A1, n1, c1, A2, n2, c2, A3, n3, c3, rfl, hid (Ext.put (Ext.put (Ext.put Y8 (p := ⟨g, 0, none⟩) hgs (.slice A1 n1 c1)) (p := ⟨g, 1, none⟩) hgs (.slice A2 n2 c2)) (p := ⟨g, 2, none⟩) hgs (.slice A3 n3 c3)), hid ((((BG.set 0 (.slice A1 n1 c1)).set 1 (.slice A2 n2 c2)).set 2 (.slice A3 n3 c3)).cast (by simp)), hid (((FO.putB BG 0 _).putB (BG.set 0 _) 1 _).putB ((BG.set 0 _).set 1 _) 2 _).V⟩
          · refine wpTO_do (by rfl) ?_
            intro K hK
            go_simp
            have BG := Blk.new y3 25 #[.slice none 0 0, .slice none 0 0, .slice none 0 0]
            have Y9 := Ext.new Y3 (.cells #[.slice none 0 0, .slice none 0 0, .slice none 0 0] 25)
            have hgs := (Y3).size
            obtain ⟨g, hg⟩ : ∃ g, g = (y3 : World).heap.size := ⟨_, rfl⟩
            rw [← hg] at BG hgs ⊢
            generalize (y3 : World).alloc (.cells #[.slice none 0 0, .slice none 0 0, .slice none 0 0] 25) = y9 at *
            refine hK _ _ Y9 ?_
            clear K hK hg
            refine wpTO_do (by rfl) ?_
            intro K hK
            go_simp
            replace BG := Blk.keep BG (Ext.new (ext_refl y9) (.cells #[.int .i64 1, .string s, .string ⟨#[]⟩, .string t, .int .i64 2, .string s, .string ⟨#[]⟩, .string ⟨#[]⟩, .int .i64 5, .string ⟨#[]⟩, .string ⟨#[]⟩, .string ⟨#[]⟩] 27))
            have RL : Rd (y9.alloc (.cells #[.int .i64 1, .string s, .string ⟨#[]⟩, .string t, .int .i64 2, .string s, .string ⟨#[]⟩, .string ⟨#[]⟩, .int .i64 5, .string ⟨#[]⟩, .string ⟨#[]⟩, .string ⟨#[]⟩] 27)) (some ⟨y9.heap.size, 0, none⟩) (Fs.ops (Fs.gOps s t)) := rd_lit rfl rfl
            have Y10 := Ext.new Y9 (.cells #[.int .i64 1, .string s, .string ⟨#[]⟩, .string t, .int .i64 2, .string s, .string ⟨#[]⟩, .string ⟨#[]⟩, .int .i64 5, .string ⟨#[]⟩, .string ⟨#[]⟩, .string ⟨#[]⟩] 27)
            generalize y9.alloc (.cells #[.int .i64 1, .string s, .string ⟨#[]⟩, .string t, .int .i64 2, .string s, .string ⟨#[]⟩, .string ⟨#[]⟩, .int .i64 5, .string ⟨#[]⟩, .string ⟨#[]⟩, .string ⟨#[]⟩] 27) = y10 at *
            generalize y9.heap.size = gx at *
            refine hK _ _ Y10 ?_
            clear K hK
            refine wpTO_do (by rfl) ?_
            intro K hK
            go_simp
            refine Calls.mono (play_any f (Fs.gOps s t) _ 3 3 _ y10 (HV.out.keep Y10) HB.out rfl RL (by decide) HOB.out) ?_
            rintro e y11 ⟨v', he, FO, hx⟩
            rw [HDE.out] at he FO
            obtain rfl := he
            obtain ⟨A1, c1, A2, c2, A3, c3, hsh, _, _, _⟩ := id FO
            obtain ⟨n1, hn1⟩ : ∃ n, n = (FA).1.length := ⟨_, rfl⟩
            obtain ⟨n2, hn2⟩ : ∃ n, n = (FA).2.1.length := ⟨_, rfl⟩
            obtain ⟨n3, hn3⟩ : ∃ n, n = (FA).2.2.length := ⟨_, rfl⟩
            rw [← hn1, ← hn2, ← hn3] at hsh
            subst hsh
            have Y11 := Ext.then Y10 hx
            replace BG := Blk.keep BG (hx)
            replace RL := Rd.keep RL (hx)
            refine hK _ _ Y11 ?_
            clear K hK hx hn1 hn2 hn3
            repeat (refine wpTO_val (by rfl) ?_; intro K hK; go_big_quiet_op; go_big_quiet_on)
            have q0 := BG.cell 0
            have q1 := BG.cell 1
            have q2 := BG.cell 2
            have f0 := BG.frozen 0
            have f1 := BG.frozen 1
            have f2 := BG.frozen 2
            refine wpTO_do (by rfl) ?_
            intro K hK
            go_simp
            refine hK _ _ (Ext.put (Ext.put (Ext.put Y11 (p := ⟨g, 0, none⟩) hgs (.slice A1 n1 c1)) (p := ⟨g, 1, none⟩) hgs (.slice A2 n2 c2)) (p := ⟨g, 2, none⟩) hgs (.slice A3 n3 c3)) ?_
            clear K hK
            repeat (refine wpTO_val (by rfl) ?_; intro K hK; go_big_quiet_op; go_big_quiet_on)
            refine wpTO_nil ?_
            refine ⟨rfl, gx, g, A1, n1, c1, A2, n2, c2, A3, n3, c3, rfl, hid (Ext.put (Ext.put (Ext.put Y11 (p := ⟨g, 0, none⟩) hgs (.slice A1 n1 c1)) (p := ⟨g, 1, none⟩) hgs (.slice A2 n2 c2)) (p := ⟨g, 2, none⟩) hgs (.slice A3 n3 c3)), hid ((((BG.set 0 (.slice A1 n1 c1)).set 1 (.slice A2 n2 c2)).set 2 (.slice A3 n3 c3)).cast (by simp)), hid (((FO.putB BG 0 _).putB (BG.set 0 _) 1 _).putB ((BG.set 0 _).set 1 _) 2 _).V⟩
        · refine wpTO_do (by rfl) ?_
          intro K hK
          go_simp
          have BG := Blk.new y2 25 #[.slice none 0 0, .slice none 0 0, .slice none 0 0]
          have Y12 := Ext.new Y2 (.cells #[.slice none 0 0, .slice none 0 0, .slice none 0 0] 25)
          have hgs := (Y2).size
          obtain ⟨g, hg⟩ : ∃ g, g = (y2 : World).heap.size := ⟨_, rfl⟩
          rw [← hg] at BG hgs ⊢
          generalize (y2 : World).alloc (.cells #[.slice none 0 0, .slice none 0 0, .slice none 0 0] 25) = y12 at *
          refine hK _ _ Y12 ?_
          clear K hK hg
          refine wpTO_do (by rfl) ?_
          intro K hK
          go_simp
          refine Calls.mono (op_any _ _ _ _ _) ?_
          rintro e y13 ⟨rfl, hx⟩
          have Y13 := Ext.then Y12 hx
          replace BG := Blk.keep BG (hx)
          refine hK _ _ Y13 ?_
          clear K hK hx
          refine wpTO_do (by rfl) ?_
          intro K hK
          go_simp
          replace BG := Blk.keep BG (Ext.new (ext_refl y13) (.cells #[.int .i64 1, .string s, .string ⟨#[]⟩, .string t, .int .i64 2, .string s, .string ⟨#[]⟩, .string ⟨#[]⟩, .int .i64 5, .string ⟨#[]⟩, .string ⟨#[]⟩, .string ⟨#[]⟩] 27))
          have RL : Rd (y13.alloc (.cells #[.int .i64 1, .string s, .string ⟨#[]⟩, .string t, .int .i64 2, .string s, .string ⟨#[]⟩, .string ⟨#[]⟩, .int .i64 5, .string ⟨#[]⟩, .string ⟨#[]⟩, .string ⟨#[]⟩] 27)) (some ⟨y13.heap.size, 0, none⟩) (Fs.ops (Fs.gOps s t)) := rd_lit rfl rfl
          have Y14 := Ext.new Y13 (.cells #[.int .i64 1, .string s, .string ⟨#[]⟩, .string t, .int .i64 2, .string s, .string ⟨#[]⟩, .string ⟨#[]⟩, .int .i64 5, .string ⟨#[]⟩, .string ⟨#[]⟩, .string ⟨#[]⟩] 27)
          generalize y13.alloc (.cells #[.int .i64 1, .string s, .string ⟨#[]⟩, .string t, .int .i64 2, .string s, .string ⟨#[]⟩, .string ⟨#[]⟩, .int .i64 5, .string ⟨#[]⟩, .string ⟨#[]⟩, .string ⟨#[]⟩] 27) = y14 at *
          generalize y13.heap.size = gx at *
          refine hK _ _ Y14 ?_
          clear K hK
          refine wpTO_do (by rfl) ?_
          intro K hK
          go_simp
          refine Calls.mono (play_any f (Fs.gOps s t) _ 3 3 _ y14 (HV.out.keep Y14) HB.out rfl RL (by decide) HOB.out) ?_
          rintro e y15 ⟨v', he, FO, hx⟩
          rw [HDE.out] at he FO
          obtain rfl := he
          obtain ⟨A1, c1, A2, c2, A3, c3, hsh, _, _, _⟩ := id FO
          obtain ⟨n1, hn1⟩ : ∃ n, n = (FA).1.length := ⟨_, rfl⟩
          obtain ⟨n2, hn2⟩ : ∃ n, n = (FA).2.1.length := ⟨_, rfl⟩
          obtain ⟨n3, hn3⟩ : ∃ n, n = (FA).2.2.length := ⟨_, rfl⟩
          rw [← hn1, ← hn2, ← hn3] at hsh
          subst hsh
          have Y15 := Ext.then Y14 hx
          replace BG := Blk.keep BG (hx)
          replace RL := Rd.keep RL (hx)
          refine hK _ _ Y15 ?_
          clear K hK hx hn1 hn2 hn3
          repeat (refine wpTO_val (by rfl) ?_; intro K hK; go_big_quiet_op; go_big_quiet_on)
          have q0 := BG.cell 0
          have q1 := BG.cell 1
          have q2 := BG.cell 2
          have f0 := BG.frozen 0
          have f1 := BG.frozen 1
          have f2 := BG.frozen 2
          refine wpTO_do (by rfl) ?_
          intro K hK
          go_simp
          refine hK _ _ (Ext.put (Ext.put (Ext.put Y15 (p := ⟨g, 0, none⟩) hgs (.slice A1 n1 c1)) (p := ⟨g, 1, none⟩) hgs (.slice A2 n2 c2)) (p := ⟨g, 2, none⟩) hgs (.slice A3 n3 c3)) ?_
          clear K hK
          repeat (refine wpTO_val (by rfl) ?_; intro K hK; go_big_quiet_op; go_big_quiet_on)
          refine wpTO_nil ?_
          refine ⟨rfl, gx, g, A1, n1, c1, A2, n2, c2, A3, n3, c3, rfl, hid (Ext.put (Ext.put (Ext.put Y15 (p := ⟨g, 0, none⟩) hgs (.slice A1 n1 c1)) (p := ⟨g, 1, none⟩) hgs (.slice A2 n2 c2)) (p := ⟨g, 2, none⟩) hgs (.slice A3 n3 c3)), hid ((((BG.set 0 (.slice A1 n1 c1)).set 1 (.slice A2 n2 c2)).set 2 (.slice A3 n3 c3)).cast (by simp)), hid (((FO.putB BG 0 _).putB (BG.set 0 _) 1 _).putB ((BG.set 0 _).set 1 _) 2 _).V⟩
      · refine wpTO_do (by rfl) ?_
        intro K hK
        go_simp
        have BG := Blk.new y1 25 #[.slice none 0 0, .slice none 0 0, .slice none 0 0]
        have Y16 := Ext.new Y1 (.cells #[.slice none 0 0, .slice none 0 0, .slice none 0 0] 25)
        have hgs := (Y1).size
        obtain ⟨g, hg⟩ : ∃ g, g = (y1 : World).heap.size := ⟨_, rfl⟩
        rw [← hg] at BG hgs ⊢
        generalize (y1 : World).alloc (.cells #[.slice none 0 0, .slice none 0 0, .slice none 0 0] 25) = y16 at *
        refine hK _ _ Y16 ?_
        clear K hK hg
        refine wpTO_do (by rfl) ?_
        intro K hK
        go_simp
        refine Calls.mono (op_any _ _ _ _ _) ?_
        rintro e y17 ⟨rfl, hx⟩
        have Y17 := Ext.then Y16 hx
        replace BG := Blk.keep BG (hx)
        refine hK _ _ Y17 ?_
        clear K hK hx
        refine wpTO_do (by rfl) ?_
        intro K hK
        go_simp
        refine Calls.mono (op_any _ _ _ _ _) ?_
        rintro e y18 ⟨rfl, hx⟩
        have Y18 := Ext.then Y17 hx
        replace BG := Blk.keep BG (hx)
        refine hK _ _ Y18 ?_
        clear K hK hx
        refine wpTO_do (by rfl) ?_
        intro K hK
        go_simp
        replace BG := Blk.keep BG (Ext.new (ext_refl y18) (.cells #[.int .i64 1, .string s, .string ⟨#[]⟩, .string t, .int .i64 2, .string s, .string ⟨#[]⟩, .string ⟨#[]⟩, .int .i64 5, .string ⟨#[]⟩, .string ⟨#[]⟩, .string ⟨#[]⟩] 27))
        have RL : Rd (y18.alloc (.cells #[.int .i64 1, .string s, .string ⟨#[]⟩, .string t, .int .i64 2, .string s, .string ⟨#[]⟩, .string ⟨#[]⟩, .int .i64 5, .string ⟨#[]⟩, .string ⟨#[]⟩, .string ⟨#[]⟩] 27)) (some ⟨y18.heap.size, 0, none⟩) (Fs.ops (Fs.gOps s t)) := rd_lit rfl rfl
        have Y19 := Ext.new Y18 (.cells #[.int .i64 1, .string s, .string ⟨#[]⟩, .string t, .int .i64 2, .string s, .string ⟨#[]⟩, .string ⟨#[]⟩, .int .i64 5, .string ⟨#[]⟩, .string ⟨#[]⟩, .string ⟨#[]⟩] 27)
        generalize y18.alloc (.cells #[.int .i64 1, .string s, .string ⟨#[]⟩, .string t, .int .i64 2, .string s, .string ⟨#[]⟩, .string ⟨#[]⟩, .int .i64 5, .string ⟨#[]⟩, .string ⟨#[]⟩, .string ⟨#[]⟩] 27) = y19 at *
        generalize y18.heap.size = gx at *
        refine hK _ _ Y19 ?_
        clear K hK
        refine wpTO_do (by rfl) ?_
        intro K hK
        go_simp
        refine Calls.mono (play_any f (Fs.gOps s t) _ 3 3 _ y19 (HV.out.keep Y19) HB.out rfl RL (by decide) HOB.out) ?_
        rintro e y20 ⟨v', he, FO, hx⟩
        rw [HDE.out] at he FO
        obtain rfl := he
        obtain ⟨A1, c1, A2, c2, A3, c3, hsh, _, _, _⟩ := id FO
        obtain ⟨n1, hn1⟩ : ∃ n, n = (FA).1.length := ⟨_, rfl⟩
        obtain ⟨n2, hn2⟩ : ∃ n, n = (FA).2.1.length := ⟨_, rfl⟩
        obtain ⟨n3, hn3⟩ : ∃ n, n = (FA).2.2.length := ⟨_, rfl⟩
        rw [← hn1, ← hn2, ← hn3] at hsh
        subst hsh
        have Y20 := Ext.then Y19 hx
        replace BG := Blk.keep BG (hx)
        replace RL := Rd.keep RL (hx)
        refine hK _ _ Y20 ?_
        clear K hK hx hn1 hn2 hn3
        repeat (refine wpTO_val (by rfl) ?_; intro K hK; go_big_quiet_op; go_big_quiet_on)
        have q0 := BG.cell 0
        have q1 := BG.cell 1
        have q2 := BG.cell 2
        have f0 := BG.frozen 0
        have f1 := BG.frozen 1
        have f2 := BG.frozen 2
        refine wpTO_do (by rfl) ?_
        intro K hK
        go_simp
        refine hK _ _ (Ext.put (Ext.put (Ext.put Y20 (p := ⟨g, 0, none⟩) hgs (.slice A1 n1 c1)) (p := ⟨g, 1, none⟩) hgs (.slice A2 n2 c2)) (p := ⟨g, 2, none⟩) hgs (.slice A3 n3 c3)) ?_
        clear K hK
        repeat (refine wpTO_val (by rfl) ?_; intro K hK; go_big_quiet_op; go_big_quiet_on)
        refine wpTO_nil ?_
        refine ⟨rfl, gx, g, A1, n1, c1, A2, n2, c2, A3, n3, c3, rfl, hid (Ext.put (Ext.put (Ext.put Y20 (p := ⟨g, 0, none⟩) hgs (.slice A1 n1 c1)) (p := ⟨g, 1, none⟩) hgs (.slice A2 n2 c2)) (p := ⟨g, 2, none⟩) hgs (.slice A3 n3 c3)), hid ((((BG.set 0 (.slice A1 n1 c1)).set 1 (.slice A2 n2 c2)).set 2 (.slice A3 n3 c3)).cast (by simp)), hid (((FO.putB BG 0 _).putB (BG.set 0 _) 1 _).putB ((BG.set 0 _).set 1 _) 2 _).V⟩
    · refine wpTO_do (by rfl) ?_
      intro K hK
      go_simp
      have BG := Blk.new y0 25 #[.slice none 0 0, .slice none 0 0, .slice none 0 0]
      have Y21 := Ext.new Y0 (.cells #[.slice none 0 0, .slice none 0 0, .slice none 0 0] 25)
      have hgs := (Y0).size
      obtain ⟨g, hg⟩ : ∃ g, g = (y0 : World).heap.size := ⟨_, rfl⟩
      rw [← hg] at BG hgs ⊢
      generalize (y0 : World).alloc (.cells #[.slice none 0 0, .slice none 0 0, .slice none 0 0] 25) = y21 at *
      refine hK _ _ Y21 ?_
      clear K hK hg
      refine wpTO_do (by rfl) ?_
      intro K hK
      go_simp
      refine Calls.mono (op_any _ _ _ _ _) ?_
      rintro e y22 ⟨rfl, hx⟩
      have Y22 := Ext.then Y21 hx
      replace BG := Blk.keep BG (hx)
      refine hK _ _ Y22 ?_
      clear K hK hx
      refine wpTO_do (by rfl) ?_
      intro K hK
      go_simp
      refine Calls.mono (op_any _ _ _ _ _) ?_
      rintro e y23 ⟨rfl, hx⟩
      have Y23 := Ext.then Y22 hx
      replace BG := Blk.keep BG (hx)
      refine hK _ _ Y23 ?_
      clear K hK hx
      refine wpTO_do (by rfl) ?_
      intro K hK
      go_simp
      refine Calls.mono (op_any _ _ _ _ _) ?_
      rintro e y24 ⟨rfl, hx⟩
      have Y24 := Ext.then Y23 hx
      replace BG := Blk.keep BG (hx)
      refine hK _ _ Y24 ?_
      clear K hK hx
      refine wpTO_do (by rfl) ?_
      intro K hK
      go_simp
      replace BG := Blk.keep BG (Ext.new (ext_refl y24) (.cells #[.int .i64 1, .string s, .string ⟨#[]⟩, .string t, .int .i64 2, .string s, .string ⟨#[]⟩, .string ⟨#[]⟩, .int .i64 5, .string ⟨#[]⟩, .string ⟨#[]⟩, .string ⟨#[]⟩] 27))
      have RL : Rd (y24.alloc (.cells #[.int .i64 1, .string s, .string ⟨#[]⟩, .string t, .int .i64 2, .string s, .string ⟨#[]⟩, .string ⟨#[]⟩, .int .i64 5, .string ⟨#[]⟩, .string ⟨#[]⟩, .string ⟨#[]⟩] 27)) (some ⟨y24.heap.size, 0, none⟩) (Fs.ops (Fs.gOps s t)) := rd_lit rfl rfl
      have Y25 := Ext.new Y24 (.cells #[.int .i64 1, .string s, .string ⟨#[]⟩, .string t, .int .i64 2, .string s, .string ⟨#[]⟩, .string ⟨#[]⟩, .int .i64 5, .string ⟨#[]⟩, .string ⟨#[]⟩, .string ⟨#[]⟩] 27)
      generalize y24.alloc (.cells #[.int .i64 1, .string s, .string ⟨#[]⟩, .string t, .int .i64 2, .string s, .string ⟨#[]⟩, .string ⟨#[]⟩, .int .i64 5, .string ⟨#[]⟩, .string ⟨#[]⟩, .string ⟨#[]⟩] 27) = y25 at *
      generalize y24.heap.size = gx at *
      refine hK _ _ Y25 ?_
      clear K hK
      refine wpTO_do (by rfl) ?_
      intro K hK
      go_simp
      refine Calls.mono (play_any f (Fs.gOps s t) _ 3 3 _ y25 (HV.out.keep Y25) HB.out rfl RL (by decide) HOB.out) ?_
      rintro e y26 ⟨v', he, FO, hx⟩
      rw [HDE.out] at he FO
      obtain rfl := he
      obtain ⟨A1, c1, A2, c2, A3, c3, hsh, _, _, _⟩ := id FO
      obtain ⟨n1, hn1⟩ : ∃ n, n = (FA).1.length := ⟨_, rfl⟩
      obtain ⟨n2, hn2⟩ : ∃ n, n = (FA).2.1.length := ⟨_, rfl⟩
      obtain ⟨n3, hn3⟩ : ∃ n, n = (FA).2.2.length := ⟨_, rfl⟩
      rw [← hn1, ← hn2, ← hn3] at hsh
      subst hsh
      have Y26 := Ext.then Y25 hx
      replace BG := Blk.keep BG (hx)
      replace RL := Rd.keep RL (hx)
      refine hK _ _ Y26 ?_
      clear K hK hx hn1 hn2 hn3
      repeat (refine wpTO_val (by rfl) ?_; intro K hK; go_big_quiet_op; go_big_quiet_on)
      have q0 := BG.cell 0
      have q1 := BG.cell 1
      have q2 := BG.cell 2
      have f0 := BG.frozen 0
      have f1 := BG.frozen 1
      have f2 := BG.frozen 2
      refine wpTO_do (by rfl) ?_
      intro K hK
      go_simp
      refine hK _ _ (Ext.put (Ext.put (Ext.put Y26 (p := ⟨g, 0, none⟩) hgs (.slice A1 n1 c1)) (p := ⟨g, 1, none⟩) hgs (.slice A2 n2 c2)) (p := ⟨g, 2, none⟩) hgs (.slice A3 n3 c3)) ?_
      clear K hK
      repeat (refine wpTO_val (by rfl) ?_; intro K hK; go_big_quiet_op; go_big_quiet_on)
      refine wpTO_nil ?_
      refine ⟨rfl, gx, g, A1, n1, c1, A2, n2, c2, A3, n3, c3, rfl, hid (Ext.put (Ext.put (Ext.put Y26 (p := ⟨g, 0, none⟩) hgs (.slice A1 n1 c1)) (p := ⟨g, 1, none⟩) hgs (.slice A2 n2 c2)) (p := ⟨g, 2, none⟩) hgs (.slice A3 n3 c3)), hid ((((BG.set 0 (.slice A1 n1 c1)).set 1 (.slice A2 n2 c2)).set 2 (.slice A3 n3 c3)).cast (by simp)), hid (((FO.putB BG 0 _).putB (BG.set 0 _) 1 _).putB ((BG.set 0 _).set 1 _) 2 _).V⟩
  rintro xa ga A1a n1a c1a A2a n2a c2a A3a n3a c3a y1' ⟨XQ, Ba, Va⟩
  replace X := hid (X.out.then XQ.out)
  clear XQ
  clear p0 p1 p2 p0r p1r p2r
  go_wp2_with fail
  refine Calls.mono (fsBegun_any _) ?_
  rintro e w3 ⟨rfl, hx⟩
  replace X := hid (X.out.then hx)
  replace Va := hid (Va.out.keep hx)
  replace Ba := hid (Ba.out.keep hx)
  clear hx
  have a0 := Ba.out.cell 0
  have a1 := Ba.out.cell 1
  have a2 := Ba.out.cell 2
  go_wp2_with fail
  refine Calls.mono (sameFS_same FA _ _ _ Va.out (by rw [HFA.out]; exact fs0_V _) (by rw [HFA.out]; exact Fs.fs0_b)) ?_
  rintro e w4 ⟨rfl, hx⟩
  replace X := hid (X.out.then hx)
  clear hx
  go_wp2
  go_returns
  exact ⟨rfl, X.out⟩
set_option maxHeartbeats 3200000 in
set_option maxRecDepth 100000 in
theorem fsGood_ok (f : Fs.FSy) (s t : ByteArray) (mk : Nat) (v : Value) (w : World) (hv : FsV w v f) (hb : Fs.FsB f) (hs : s.size ≤ 140737488355328) (ht : t.size ≤ 140737488355328) (hmk : mk < 18446744073709551616) (h0 : (Fs.ply f (Fs.gOps s t)).2 = 0) :
    Calls Tryd.prog 6 #[v, .string s, .string t, .int .u64 mk] w fun e w' => e = .returned (.bool true) ∧ Ext w w' := by
  have HB := hid hb
  have HMK := hid hmk
  have HOB := hid (show ∀ o ∈ Fs.gOps s t, Fs.OpB o by
    intro o ho
    simp only [Fs.gOps, List.mem_cons, List.not_mem_nil, or_false] at ho
    rcases ho with rfl | rfl | rfl
    · exact ⟨hs, Fs.e_size, ht⟩
    · exact ⟨hs, Fs.e_size, Fs.e_size⟩
    · exact ⟨Fs.e_size, Fs.e_size, Fs.e_size⟩)
  have HV := hid hv
  obtain ⟨NA, nn, nc, DA, dn, dc, SA, sn, sc, rfl⟩ := hv.shape
  obtain ⟨FB, q1, q2, q3, q4⟩ := Fs.good_law h0 mk (18446744073709551615 - mk)
  obtain ⟨FA, hFA⟩ : ∃ F, F = (Fs.ply f (Fs.gOps s t)).1 := ⟨_, rfl⟩
  have HDE := hid (show Fs.ply f (Fs.gOps s t) = (FA, 0) from Prod.ext hFA.symm h0)
  rw [← hFA] at q1
  have HQ1 := hid q1; have HQ2 := hid q2; have HQ3 := hid q3; have HQ4 := hid q4
  have HBA := hid (show Fs.FsB FA by rw [hFA]; exact Fs.ply_b)
  have HBB := hid (Fs.ok_iff.1 q4).b
  obtain ⟨Mi, hMi⟩ : ∃ M : Int, M = (mk : Int) := ⟨_, rfl⟩
  obtain ⟨Mj, hMj⟩ : ∃ M : Int, M = ((18446744073709551615 - mk : Nat) : Int) := ⟨_, rfl⟩
  have HC1 := hid (fun wx v (hw : FsV wx v FA) => crash_V FA mk v wx hw HBA.out hmk)
  have HC2 := hid (fun wx v (hw : FsV wx v FB) => crash_V FB (18446744073709551615 - mk) v wx hw HBB.out (by omega))
  rw [← hMi] at HC1 ⊢
  rw [← hMj] at HC2
  have HXM := hid (show bits .xor .u64 IntKind.u64.max Mi = Mj by rw [hMi, hMj]; exact Fs.xor_max mk hmk)
  have hm0 : 0 ≤ Mi := by omega
  have hm1 : Mi < 18446744073709551616 := by omega
  clear hv hb hs ht hmk h0 hFA q1 q2 q3 q4 hMi hMj
  go_enter Tryd.func6, Tryd.ntmps6
  go_upto_region 1 with fail
  refine wp_gen (fun w' => Ext w w' ∧ Blk w' w.heap.size 25 #[.slice NA nn nc, .slice DA dn dc, .slice SA sn sc]) ⟨(ext_refl _).new _, Blk.new _ _ _⟩ ?_
  rintro wz ⟨B0, B1⟩
  have X : Hid (Ext w wz) := hid B0
  have F1 := hid B1
  replace HV := hid (HV.out.keep B0)
  clear B0 B1
  have p0 := F1.out.cell 0
  have p1 := F1.out.cell 1
  have p2 := F1.out.cell 2
  go_upto_region 1 with fail
  have p0r := cell_regrown p0
  have p1r := cell_regrown p1
  have p2r := cell_regrown p2
  apply wp_cutFS (F := fun x g A1 n1 c1 A2 n2 c2 A3 n3 c3 w' => Hid (Ext wz w') ∧ Hid (Blk w' g 25 #[.slice A1 n1 c1, .slice A2 n2 c2, .slice A3 n3 c3]) ∧ Hid (FsV w' (.agg #[.slice A1 n1 c1, .slice A2 n2 c2, .slice A3 n3 c3]) (FA)))
  case h1 =>
    refine wp_region_tree (.one 0 true (.one 1 true (.one 2 true (.one 4 true (.two 3 12 (.two 5 12 (.two 6 12 (.two 7 12 (.two 8 12 (.one 9 true (.one 10 true (.one 11 true (.one 12 false (.one 13 false (.one 14 true (.nil))))))) (.one 8 false (.one 9 true (.one 10 true (.one 11 true (.one 13 false (.one 14 true (.nil)))))))) (.one 7 false (.one 8 false (.one 9 true (.one 10 true (.one 11 true (.one 13 false (.one 14 true (.nil))))))))) (.one 6 false (.one 7 false (.one 8 false (.one 9 true (.one 10 true (.one 11 true (.one 13 false (.one 14 true (.nil)))))))))) (.one 5 false (.one 6 false (.one 7 false (.one 8 false (.one 9 true (.one 10 true (.one 11 true (.one 13 false (.one 14 true (.nil))))))))))) (.one 3 false (.one 5 false (.one 6 false (.one 7 false (.one 8 false (.one 9 true (.one 10 true (.one 11 true (.one 13 false (.one 14 true (.nil)))))))))))))))) (by kernel_rfl) (by kernel_rfl) (by rintro _ _ _ _ _ ⟨h, _⟩; cases h) (by kernel_rfl) (by rfl) ?_
    simp only [fillT, List.getD_cons_zero, List.getD_cons_succ]
    have Y0 : Ext wz wz.drew := (ext_refl wz).draw
    generalize wz.drew = y0 at Y0 ⊢
    repeat (refine wpTO_val (by rfl) ?_; intro K hK; go_big_quiet_op; go_big_quiet_on)
    refine wpTO_two ?_ ?_
    · refine wpTO_do (by rfl) ?_
      intro K hK
      go_simp
      refine Calls.mono (op_any _ _ _ _ _) ?_
      rintro e y1 ⟨rfl, hx⟩
      have Y1 := Ext.then Y0 hx
      refine hK _ _ Y1 ?_
      clear K hK hx
      refine wpTO_two ?_ ?_
      · refine wpTO_do (by rfl) ?_
        intro K hK
        go_simp
        refine Calls.mono (op_any _ _ _ _ _) ?_
        rintro e y2 ⟨rfl, hx⟩
        have Y2 := Ext.then Y1 hx
        refine hK _ _ Y2 ?_
        clear K hK hx
        refine wpTO_two ?_ ?_
        · refine wpTO_do (by rfl) ?_
          intro K hK
          go_simp
          refine Calls.mono (op_any _ _ _ _ _) ?_
          rintro e y3 ⟨rfl, hx⟩
          have Y3 := Ext.then Y2 hx
          refine hK _ _ Y3 ?_
          clear K hK hx
          refine wpTO_two ?_ ?_
          · refine wpTO_do (by rfl) ?_
            intro K hK
            go_simp
            have RL : Rd (y3.alloc (.cells #[.int .i64 1, .string s, .string ⟨#[]⟩, .string t, .int .i64 2, .string s, .string ⟨#[]⟩, .string ⟨#[]⟩, .int .i64 5, .string ⟨#[]⟩, .string ⟨#[]⟩, .string ⟨#[]⟩] 27)) (some ⟨y3.heap.size, 0, none⟩) (Fs.ops (Fs.gOps s t)) := rd_lit rfl rfl
            have Y4 := Ext.new Y3 (.cells #[.int .i64 1, .string s, .string ⟨#[]⟩, .string t, .int .i64 2, .string s, .string ⟨#[]⟩, .string ⟨#[]⟩, .int .i64 5, .string ⟨#[]⟩, .string ⟨#[]⟩, .string ⟨#[]⟩] 27)
            generalize y3.alloc (.cells #[.int .i64 1, .string s, .string ⟨#[]⟩, .string t, .int .i64 2, .string s, .string ⟨#[]⟩, .string ⟨#[]⟩, .int .i64 5, .string ⟨#[]⟩, .string ⟨#[]⟩, .string ⟨#[]⟩] 27) = y4 at *
            generalize y3.heap.size = gx at *
            refine hK _ _ Y4 ?_
            clear K hK
            refine wpTO_two ?_ ?_
            · refine wpTO_do (by rfl) ?_
              intro K hK
              go_simp
              refine Calls.mono (play_any f (Fs.gOps s t) _ 3 3 _ y4 (HV.out.keep Y4) HB.out rfl RL (by decide) HOB.out) ?_
              rintro e y5 ⟨v', he, FO, hx⟩
              rw [HDE.out] at he FO
              obtain rfl := he
              obtain ⟨A1, c1, A2, c2, A3, c3, hsh, _, _, _⟩ := id FO
              obtain ⟨n1, hn1⟩ : ∃ n, n = (FA).1.length := ⟨_, rfl⟩
              obtain ⟨n2, hn2⟩ : ∃ n, n = (FA).2.1.length := ⟨_, rfl⟩
              obtain ⟨n3, hn3⟩ : ∃ n, n = (FA).2.2.length := ⟨_, rfl⟩
              rw [← hn1, ← hn2, ← hn3] at hsh
              subst hsh
              have Y5 := Ext.then Y4 hx
              replace RL := Rd.keep RL (hx)
              refine hK _ _ Y5 ?_
              clear K hK hx hn1 hn2 hn3
              repeat (refine wpTO_val (by rfl) ?_; intro K hK; go_big_quiet_op; go_big_quiet_on)
              refine wpTO_do (by rfl) ?_
              intro K hK
              go_simp
              replace RL := Rd.keep RL (Ext.new (ext_refl y5) (.cells #[.slice none 0 0, .slice none 0 0, .slice none 0 0] 25))
              replace FO := FsO.keep FO (Ext.new (ext_refl y5) (.cells #[.slice none 0 0, .slice none 0 0, .slice none 0 0] 25))
              have BG := Blk.new y5 25 #[.slice none 0 0, .slice none 0 0, .slice none 0 0]
              have Y6 := Ext.new Y5 (.cells #[.slice none 0 0, .slice none 0 0, .slice none 0 0] 25)
              have hgs := (Y5).size
              obtain ⟨g, hg⟩ : ∃ g, g = (y5 : World).heap.size := ⟨_, rfl⟩
              rw [← hg] at BG hgs ⊢
              generalize (y5 : World).alloc (.cells #[.slice none 0 0, .slice none 0 0, .slice none 0 0] 25) = y6 at *
              refine hK _ _ Y6 ?_
              clear K hK hg
              have q0 := BG.cell 0
              have q1 := BG.cell 1
              have q2 := BG.cell 2
              have f0 := BG.frozen 0
              have f1 := BG.frozen 1
              have f2 := BG.frozen 2
              refine wpTO_do (by rfl) ?_
              intro K hK
              go_simp
              refine hK _ _ (Ext.put (Ext.put (Ext.put Y6 (p := ⟨g, 0, none⟩) hgs (.slice A1 n1 c1)) (p := ⟨g, 1, none⟩) hgs (.slice A2 n2 c2)) (p := ⟨g, 2, none⟩) hgs (.slice A3 n3 c3)) ?_
              clear K hK
              repeat (refine wpTO_val (by rfl) ?_; intro K hK; go_big_quiet_op; go_big_quiet_on)
              refine wpTO_nil ?_
              refine ⟨rfl, gx, g, A1, n1, c1, A2, n2, c2, A3, n3, c3, rfl, hid (Ext.put (Ext.put (Ext.put Y6 (p := ⟨g, 0, none⟩) hgs (.slice A1 n1 c1)) (p := ⟨g, 1, none⟩) hgs (.slice A2 n2 c2)) (p := ⟨g, 2, none⟩) hgs (.slice A3 n3 c3)), hid ((((BG.set 0 (.slice A1 n1 c1)).set 1 (.slice A2 n2 c2)).set 2 (.slice A3 n3 c3)).cast (by simp)), hid (((FO.putB BG 0 _).putB (BG.set 0 _) 1 _).putB ((BG.set 0 _).set 1 _) 2 _).V⟩
            · refine wpTO_do (by rfl) ?_
              intro K hK
              go_simp
              replace RL := Rd.keep RL (Ext.new (ext_refl y4) (.cells #[.slice none 0 0, .slice none 0 0, .slice none 0 0] 25))
              have BG := Blk.new y4 25 #[.slice none 0 0, .slice none 0 0, .slice none 0 0]
              have Y7 := Ext.new Y4 (.cells #[.slice none 0 0, .slice none 0 0, .slice none 0 0] 25)
              have hgs := (Y4).size
              obtain ⟨g, hg⟩ : ∃ g, g = (y4 : World).heap.size := ⟨_, rfl⟩
              rw [← hg] at BG hgs ⊢
              generalize (y4 : World).alloc (.cells #[.slice none 0 0, .slice none 0 0, .slice none 0 0] 25) = y7 at *
              refine hK _ _ Y7 ?_
              clear K hK hg
              refine wpTO_do (by rfl) ?_
              intro K hK
              go_simp
              refine Calls.mono (play_any f (Fs.gOps s t) _ 3 3 _ y7 (HV.out.keep Y7) HB.out rfl RL (by decide) HOB.out) ?_
              rintro e y8 ⟨v', he, FO, hx⟩
              rw [HDE.out] at he FO
              obtain rfl := he
              obtain ⟨A1, c1, A2, c2, A3, c3, hsh, _, _, _⟩ := id FO
              obtain ⟨n1, hn1⟩ : ∃ n, n = (FA).1.length := ⟨_, rfl⟩
              obtain ⟨n2, hn2⟩ : ∃ n, n = (FA).2.1.length := ⟨_, rfl⟩
              obtain ⟨n3, hn3⟩ : ∃ n, n = (FA).2.2.length := ⟨_, rfl⟩
              rw [← hn1, ← hn2, ← hn3] at hsh
              subst hsh
              have Y8 := Ext.then Y7 hx
              replace RL := Rd.keep RL (hx)
              replace BG := Blk.keep BG (hx)
              refine hK _ _ Y8 ?_
              clear K hK hx hn1 hn2 hn3
              repeat (refine wpTO_val (by rfl) ?_; intro K hK; go_big_quiet_op; go_big_quiet_on)
              have q0 := BG.cell 0
              have q1 := BG.cell 1
              have q2 := BG.cell 2
              have f0 := BG.frozen 0
              have f1 := BG.frozen 1
              have f2 := BG.frozen 2
              refine wpTO_do (by rfl) ?_
              intro K hK
              go_simp
              refine hK _ _ (Ext.put (Ext.put (Ext.put Y8 (p := ⟨g, 0, none⟩) hgs (.slice A1 n1 c1)) (p := ⟨g, 1, none⟩) hgs (.slice A2 n2 c2)) (p := ⟨g, 2, none⟩) hgs (.slice A3 n3 c3)) ?_
              clear K hK
              repeat (refine wpTO_val (by rfl) ?_; intro K hK; go_big_quiet_op; go_big_quiet_on)
              refine wpTO_nil ?_
              refine ⟨rfl, gx, g, A1, n1, c1, A2, n2, c2, A3, n3, c3, rfl, hid (Ext.put (Ext.put (Ext.put Y8 (p := ⟨g, 0, none⟩) hgs (.slice A1 n1 c1)) (p := ⟨g, 1, none⟩) hgs (.slice A2 n2 c2)) (p := ⟨g, 2, none⟩) hgs (.slice A3 n3 c3)), hid ((((BG.set 0 (.slice A1 n1 c1)).set 1 (.slice A2 n2 c2)).set 2 (.slice A3 n3 c3)).cast (by simp)), hid (((FO.putB BG 0 _).putB (BG.set 0 _) 1 _).putB ((BG.set 0 _).set 1 _) 2 _).V⟩
          · refine wpTO_do (by rfl) ?_
            intro K hK
            go_simp
            have BG := Blk.new y3 25 #[.slice none 0 0, .slice none 0 0, .slice none 0 0]
            have Y9 := Ext.new Y3 (.cells #[.slice none 0 0, .slice none 0 0, .slice none 0 0] 25)
            have hgs := (Y3).size
            obtain ⟨g, hg⟩ : ∃ g, g = (y3 : World).heap.size := ⟨_, rfl⟩
            rw [← hg] at BG hgs ⊢
            generalize (y3 : World).alloc (.cells #[.slice none 0 0, .slice none 0 0, .slice none 0 0] 25) = y9 at *
            refine hK _ _ Y9 ?_
            clear K hK hg
            refine wpTO_do (by rfl) ?_
            intro K hK
            go_simp
            replace BG := Blk.keep BG (Ext.new (ext_refl y9) (.cells #[.int .i64 1, .string s, .string ⟨#[]⟩, .string t, .int .i64 2, .string s, .string ⟨#[]⟩, .string ⟨#[]⟩, .int .i64 5, .string ⟨#[]⟩, .string ⟨#[]⟩, .string ⟨#[]⟩] 27))
            have RL : Rd (y9.alloc (.cells #[.int .i64 1, .string s, .string ⟨#[]⟩, .string t, .int .i64 2, .string s, .string ⟨#[]⟩, .string ⟨#[]⟩, .int .i64 5, .string ⟨#[]⟩, .string ⟨#[]⟩, .string ⟨#[]⟩] 27)) (some ⟨y9.heap.size, 0, none⟩) (Fs.ops (Fs.gOps s t)) := rd_lit rfl rfl
            have Y10 := Ext.new Y9 (.cells #[.int .i64 1, .string s, .string ⟨#[]⟩, .string t, .int .i64 2, .string s, .string ⟨#[]⟩, .string ⟨#[]⟩, .int .i64 5, .string ⟨#[]⟩, .string ⟨#[]⟩, .string ⟨#[]⟩] 27)
            generalize y9.alloc (.cells #[.int .i64 1, .string s, .string ⟨#[]⟩, .string t, .int .i64 2, .string s, .string ⟨#[]⟩, .string ⟨#[]⟩, .int .i64 5, .string ⟨#[]⟩, .string ⟨#[]⟩, .string ⟨#[]⟩] 27) = y10 at *
            generalize y9.heap.size = gx at *
            refine hK _ _ Y10 ?_
            clear K hK
            refine wpTO_do (by rfl) ?_
            intro K hK
            go_simp
            refine Calls.mono (play_any f (Fs.gOps s t) _ 3 3 _ y10 (HV.out.keep Y10) HB.out rfl RL (by decide) HOB.out) ?_
            rintro e y11 ⟨v', he, FO, hx⟩
            rw [HDE.out] at he FO
            obtain rfl := he
            obtain ⟨A1, c1, A2, c2, A3, c3, hsh, _, _, _⟩ := id FO
            obtain ⟨n1, hn1⟩ : ∃ n, n = (FA).1.length := ⟨_, rfl⟩
            obtain ⟨n2, hn2⟩ : ∃ n, n = (FA).2.1.length := ⟨_, rfl⟩
            obtain ⟨n3, hn3⟩ : ∃ n, n = (FA).2.2.length := ⟨_, rfl⟩
            rw [← hn1, ← hn2, ← hn3] at hsh
            subst hsh
            have Y11 := Ext.then Y10 hx
            replace BG := Blk.keep BG (hx)
            replace RL := Rd.keep RL (hx)
            refine hK _ _ Y11 ?_
            clear K hK hx hn1 hn2 hn3
            repeat (refine wpTO_val (by rfl) ?_; intro K hK; go_big_quiet_op; go_big_quiet_on)
            have q0 := BG.cell 0
            have q1 := BG.cell 1
            have q2 := BG.cell 2
            have f0 := BG.frozen 0
            have f1 := BG.frozen 1
            have f2 := BG.frozen 2
            refine wpTO_do (by rfl) ?_
            intro K hK
            go_simp
            refine hK _ _ (Ext.put (Ext.put (Ext.put Y11 (p := ⟨g, 0, none⟩) hgs (.slice A1 n1 c1)) (p := ⟨g, 1, none⟩) hgs (.slice A2 n2 c2)) (p := ⟨g, 2, none⟩) hgs (.slice A3 n3 c3)) ?_
            clear K hK
            repeat (refine wpTO_val (by rfl) ?_; intro K hK; go_big_quiet_op; go_big_quiet_on)
            refine wpTO_nil ?_
            refine ⟨rfl, gx, g, A1, n1, c1, A2, n2, c2, A3, n3, c3, rfl, hid (Ext.put (Ext.put (Ext.put Y11 (p := ⟨g, 0, none⟩) hgs (.slice A1 n1 c1)) (p := ⟨g, 1, none⟩) hgs (.slice A2 n2 c2)) (p := ⟨g, 2, none⟩) hgs (.slice A3 n3 c3)), hid ((((BG.set 0 (.slice A1 n1 c1)).set 1 (.slice A2 n2 c2)).set 2 (.slice A3 n3 c3)).cast (by simp)), hid (((FO.putB BG 0 _).putB (BG.set 0 _) 1 _).putB ((BG.set 0 _).set 1 _) 2 _).V⟩
        · refine wpTO_do (by rfl) ?_
          intro K hK
          go_simp
          have BG := Blk.new y2 25 #[.slice none 0 0, .slice none 0 0, .slice none 0 0]
          have Y12 := Ext.new Y2 (.cells #[.slice none 0 0, .slice none 0 0, .slice none 0 0] 25)
          have hgs := (Y2).size
          obtain ⟨g, hg⟩ : ∃ g, g = (y2 : World).heap.size := ⟨_, rfl⟩
          rw [← hg] at BG hgs ⊢
          generalize (y2 : World).alloc (.cells #[.slice none 0 0, .slice none 0 0, .slice none 0 0] 25) = y12 at *
          refine hK _ _ Y12 ?_
          clear K hK hg
          refine wpTO_do (by rfl) ?_
          intro K hK
          go_simp
          refine Calls.mono (op_any _ _ _ _ _) ?_
          rintro e y13 ⟨rfl, hx⟩
          have Y13 := Ext.then Y12 hx
          replace BG := Blk.keep BG (hx)
          refine hK _ _ Y13 ?_
          clear K hK hx
          refine wpTO_do (by rfl) ?_
          intro K hK
          go_simp
          replace BG := Blk.keep BG (Ext.new (ext_refl y13) (.cells #[.int .i64 1, .string s, .string ⟨#[]⟩, .string t, .int .i64 2, .string s, .string ⟨#[]⟩, .string ⟨#[]⟩, .int .i64 5, .string ⟨#[]⟩, .string ⟨#[]⟩, .string ⟨#[]⟩] 27))
          have RL : Rd (y13.alloc (.cells #[.int .i64 1, .string s, .string ⟨#[]⟩, .string t, .int .i64 2, .string s, .string ⟨#[]⟩, .string ⟨#[]⟩, .int .i64 5, .string ⟨#[]⟩, .string ⟨#[]⟩, .string ⟨#[]⟩] 27)) (some ⟨y13.heap.size, 0, none⟩) (Fs.ops (Fs.gOps s t)) := rd_lit rfl rfl
          have Y14 := Ext.new Y13 (.cells #[.int .i64 1, .string s, .string ⟨#[]⟩, .string t, .int .i64 2, .string s, .string ⟨#[]⟩, .string ⟨#[]⟩, .int .i64 5, .string ⟨#[]⟩, .string ⟨#[]⟩, .string ⟨#[]⟩] 27)
          generalize y13.alloc (.cells #[.int .i64 1, .string s, .string ⟨#[]⟩, .string t, .int .i64 2, .string s, .string ⟨#[]⟩, .string ⟨#[]⟩, .int .i64 5, .string ⟨#[]⟩, .string ⟨#[]⟩, .string ⟨#[]⟩] 27) = y14 at *
          generalize y13.heap.size = gx at *
          refine hK _ _ Y14 ?_
          clear K hK
          refine wpTO_do (by rfl) ?_
          intro K hK
          go_simp
          refine Calls.mono (play_any f (Fs.gOps s t) _ 3 3 _ y14 (HV.out.keep Y14) HB.out rfl RL (by decide) HOB.out) ?_
          rintro e y15 ⟨v', he, FO, hx⟩
          rw [HDE.out] at he FO
          obtain rfl := he
          obtain ⟨A1, c1, A2, c2, A3, c3, hsh, _, _, _⟩ := id FO
          obtain ⟨n1, hn1⟩ : ∃ n, n = (FA).1.length := ⟨_, rfl⟩
          obtain ⟨n2, hn2⟩ : ∃ n, n = (FA).2.1.length := ⟨_, rfl⟩
          obtain ⟨n3, hn3⟩ : ∃ n, n = (FA).2.2.length := ⟨_, rfl⟩
          rw [← hn1, ← hn2, ← hn3] at hsh
          subst hsh
          have Y15 := Ext.then Y14 hx
          replace BG := Blk.keep BG (hx)
          replace RL := Rd.keep RL (hx)
          refine hK _ _ Y15 ?_
          clear K hK hx hn1 hn2 hn3
          repeat (refine wpTO_val (by rfl) ?_; intro K hK; go_big_quiet_op; go_big_quiet_on)
          have q0 := BG.cell 0
          have q1 := BG.cell 1
          have q2 := BG.cell 2
          have f0 := BG.frozen 0
          have f1 := BG.frozen 1
          have f2 := BG.frozen 2
          refine wpTO_do (by rfl) ?_
          intro K hK
          go_simp
          refine hK _ _ (Ext.put (Ext.put (Ext.put Y15 (p := ⟨g, 0, none⟩) hgs (.slice A1 n1 c1)) (p := ⟨g, 1, none⟩) hgs (.slice A2 n2 c2)) (p := ⟨g, 2, none⟩) hgs (.slice A3 n3 c3)) ?_
          clear K hK
          repeat (refine wpTO_val (by rfl) ?_; intro K hK; go_big_quiet_op; go_big_quiet_on)
          refine wpTO_nil ?_
          refine ⟨rfl, gx, g, A1, n1, c1, A2, n2, c2, A3, n3, c3, rfl, hid (Ext.put (Ext.put (Ext.put Y15 (p := ⟨g, 0, none⟩) hgs (.slice A1 n1 c1)) (p := ⟨g, 1, none⟩) hgs (.slice A2 n2 c2)) (p := ⟨g, 2, none⟩) hgs (.slice A3 n3 c3)), hid ((((BG.set 0 (.slice A1 n1 c1)).set 1 (.slice A2 n2 c2)).set 2 (.slice A3 n3 c3)).cast (by simp)), hid (((FO.putB BG 0 _).putB (BG.set 0 _) 1 _).putB ((BG.set 0 _).set 1 _) 2 _).V⟩
      · refine wpTO_do (by rfl) ?_
        intro K hK
        go_simp
        have BG := Blk.new y1 25 #[.slice none 0 0, .slice none 0 0, .slice none 0 0]
        have Y16 := Ext.new Y1 (.cells #[.slice none 0 0, .slice none 0 0, .slice none 0 0] 25)
        have hgs := (Y1).size
        obtain ⟨g, hg⟩ : ∃ g, g = (y1 : World).heap.size := ⟨_, rfl⟩
        rw [← hg] at BG hgs ⊢
        generalize (y1 : World).alloc (.cells #[.slice none 0 0, .slice none 0 0, .slice none 0 0] 25) = y16 at *
        refine hK _ _ Y16 ?_
        clear K hK hg
        refine wpTO_do (by rfl) ?_
        intro K hK
        go_simp
        refine Calls.mono (op_any _ _ _ _ _) ?_
        rintro e y17 ⟨rfl, hx⟩
        have Y17 := Ext.then Y16 hx
        replace BG := Blk.keep BG (hx)
        refine hK _ _ Y17 ?_
        clear K hK hx
        refine wpTO_do (by rfl) ?_
        intro K hK
        go_simp
        refine Calls.mono (op_any _ _ _ _ _) ?_
        rintro e y18 ⟨rfl, hx⟩
        have Y18 := Ext.then Y17 hx
        replace BG := Blk.keep BG (hx)
        refine hK _ _ Y18 ?_
        clear K hK hx
        refine wpTO_do (by rfl) ?_
        intro K hK
        go_simp
        replace BG := Blk.keep BG (Ext.new (ext_refl y18) (.cells #[.int .i64 1, .string s, .string ⟨#[]⟩, .string t, .int .i64 2, .string s, .string ⟨#[]⟩, .string ⟨#[]⟩, .int .i64 5, .string ⟨#[]⟩, .string ⟨#[]⟩, .string ⟨#[]⟩] 27))
        have RL : Rd (y18.alloc (.cells #[.int .i64 1, .string s, .string ⟨#[]⟩, .string t, .int .i64 2, .string s, .string ⟨#[]⟩, .string ⟨#[]⟩, .int .i64 5, .string ⟨#[]⟩, .string ⟨#[]⟩, .string ⟨#[]⟩] 27)) (some ⟨y18.heap.size, 0, none⟩) (Fs.ops (Fs.gOps s t)) := rd_lit rfl rfl
        have Y19 := Ext.new Y18 (.cells #[.int .i64 1, .string s, .string ⟨#[]⟩, .string t, .int .i64 2, .string s, .string ⟨#[]⟩, .string ⟨#[]⟩, .int .i64 5, .string ⟨#[]⟩, .string ⟨#[]⟩, .string ⟨#[]⟩] 27)
        generalize y18.alloc (.cells #[.int .i64 1, .string s, .string ⟨#[]⟩, .string t, .int .i64 2, .string s, .string ⟨#[]⟩, .string ⟨#[]⟩, .int .i64 5, .string ⟨#[]⟩, .string ⟨#[]⟩, .string ⟨#[]⟩] 27) = y19 at *
        generalize y18.heap.size = gx at *
        refine hK _ _ Y19 ?_
        clear K hK
        refine wpTO_do (by rfl) ?_
        intro K hK
        go_simp
        refine Calls.mono (play_any f (Fs.gOps s t) _ 3 3 _ y19 (HV.out.keep Y19) HB.out rfl RL (by decide) HOB.out) ?_
        rintro e y20 ⟨v', he, FO, hx⟩
        rw [HDE.out] at he FO
        obtain rfl := he
        obtain ⟨A1, c1, A2, c2, A3, c3, hsh, _, _, _⟩ := id FO
        obtain ⟨n1, hn1⟩ : ∃ n, n = (FA).1.length := ⟨_, rfl⟩
        obtain ⟨n2, hn2⟩ : ∃ n, n = (FA).2.1.length := ⟨_, rfl⟩
        obtain ⟨n3, hn3⟩ : ∃ n, n = (FA).2.2.length := ⟨_, rfl⟩
        rw [← hn1, ← hn2, ← hn3] at hsh
        subst hsh
        have Y20 := Ext.then Y19 hx
        replace BG := Blk.keep BG (hx)
        replace RL := Rd.keep RL (hx)
        refine hK _ _ Y20 ?_
        clear K hK hx hn1 hn2 hn3
        repeat (refine wpTO_val (by rfl) ?_; intro K hK; go_big_quiet_op; go_big_quiet_on)
        have q0 := BG.cell 0
        have q1 := BG.cell 1
        have q2 := BG.cell 2
        have f0 := BG.frozen 0
        have f1 := BG.frozen 1
        have f2 := BG.frozen 2
        refine wpTO_do (by rfl) ?_
        intro K hK
        go_simp
        refine hK _ _ (Ext.put (Ext.put (Ext.put Y20 (p := ⟨g, 0, none⟩) hgs (.slice A1 n1 c1)) (p := ⟨g, 1, none⟩) hgs (.slice A2 n2 c2)) (p := ⟨g, 2, none⟩) hgs (.slice A3 n3 c3)) ?_
        clear K hK
        repeat (refine wpTO_val (by rfl) ?_; intro K hK; go_big_quiet_op; go_big_quiet_on)
        refine wpTO_nil ?_
        refine ⟨rfl, gx, g, A1, n1, c1, A2, n2, c2, A3, n3, c3, rfl, hid (Ext.put (Ext.put (Ext.put Y20 (p := ⟨g, 0, none⟩) hgs (.slice A1 n1 c1)) (p := ⟨g, 1, none⟩) hgs (.slice A2 n2 c2)) (p := ⟨g, 2, none⟩) hgs (.slice A3 n3 c3)), hid ((((BG.set 0 (.slice A1 n1 c1)).set 1 (.slice A2 n2 c2)).set 2 (.slice A3 n3 c3)).cast (by simp)), hid (((FO.putB BG 0 _).putB (BG.set 0 _) 1 _).putB ((BG.set 0 _).set 1 _) 2 _).V⟩
    · refine wpTO_do (by rfl) ?_
      intro K hK
      go_simp
      have BG := Blk.new y0 25 #[.slice none 0 0, .slice none 0 0, .slice none 0 0]
      have Y21 := Ext.new Y0 (.cells #[.slice none 0 0, .slice none 0 0, .slice none 0 0] 25)
      have hgs := (Y0).size
      obtain ⟨g, hg⟩ : ∃ g, g = (y0 : World).heap.size := ⟨_, rfl⟩
      rw [← hg] at BG hgs ⊢
      generalize (y0 : World).alloc (.cells #[.slice none 0 0, .slice none 0 0, .slice none 0 0] 25) = y21 at *
      refine hK _ _ Y21 ?_
      clear K hK hg
      refine wpTO_do (by rfl) ?_
      intro K hK
      go_simp
      refine Calls.mono (op_any _ _ _ _ _) ?_
      rintro e y22 ⟨rfl, hx⟩
      have Y22 := Ext.then Y21 hx
      replace BG := Blk.keep BG (hx)
      refine hK _ _ Y22 ?_
      clear K hK hx
      refine wpTO_do (by rfl) ?_
      intro K hK
      go_simp
      refine Calls.mono (op_any _ _ _ _ _) ?_
      rintro e y23 ⟨rfl, hx⟩
      have Y23 := Ext.then Y22 hx
      replace BG := Blk.keep BG (hx)
      refine hK _ _ Y23 ?_
      clear K hK hx
      refine wpTO_do (by rfl) ?_
      intro K hK
      go_simp
      refine Calls.mono (op_any _ _ _ _ _) ?_
      rintro e y24 ⟨rfl, hx⟩
      have Y24 := Ext.then Y23 hx
      replace BG := Blk.keep BG (hx)
      refine hK _ _ Y24 ?_
      clear K hK hx
      refine wpTO_do (by rfl) ?_
      intro K hK
      go_simp
      replace BG := Blk.keep BG (Ext.new (ext_refl y24) (.cells #[.int .i64 1, .string s, .string ⟨#[]⟩, .string t, .int .i64 2, .string s, .string ⟨#[]⟩, .string ⟨#[]⟩, .int .i64 5, .string ⟨#[]⟩, .string ⟨#[]⟩, .string ⟨#[]⟩] 27))
      have RL : Rd (y24.alloc (.cells #[.int .i64 1, .string s, .string ⟨#[]⟩, .string t, .int .i64 2, .string s, .string ⟨#[]⟩, .string ⟨#[]⟩, .int .i64 5, .string ⟨#[]⟩, .string ⟨#[]⟩, .string ⟨#[]⟩] 27)) (some ⟨y24.heap.size, 0, none⟩) (Fs.ops (Fs.gOps s t)) := rd_lit rfl rfl
      have Y25 := Ext.new Y24 (.cells #[.int .i64 1, .string s, .string ⟨#[]⟩, .string t, .int .i64 2, .string s, .string ⟨#[]⟩, .string ⟨#[]⟩, .int .i64 5, .string ⟨#[]⟩, .string ⟨#[]⟩, .string ⟨#[]⟩] 27)
      generalize y24.alloc (.cells #[.int .i64 1, .string s, .string ⟨#[]⟩, .string t, .int .i64 2, .string s, .string ⟨#[]⟩, .string ⟨#[]⟩, .int .i64 5, .string ⟨#[]⟩, .string ⟨#[]⟩, .string ⟨#[]⟩] 27) = y25 at *
      generalize y24.heap.size = gx at *
      refine hK _ _ Y25 ?_
      clear K hK
      refine wpTO_do (by rfl) ?_
      intro K hK
      go_simp
      refine Calls.mono (play_any f (Fs.gOps s t) _ 3 3 _ y25 (HV.out.keep Y25) HB.out rfl RL (by decide) HOB.out) ?_
      rintro e y26 ⟨v', he, FO, hx⟩
      rw [HDE.out] at he FO
      obtain rfl := he
      obtain ⟨A1, c1, A2, c2, A3, c3, hsh, _, _, _⟩ := id FO
      obtain ⟨n1, hn1⟩ : ∃ n, n = (FA).1.length := ⟨_, rfl⟩
      obtain ⟨n2, hn2⟩ : ∃ n, n = (FA).2.1.length := ⟨_, rfl⟩
      obtain ⟨n3, hn3⟩ : ∃ n, n = (FA).2.2.length := ⟨_, rfl⟩
      rw [← hn1, ← hn2, ← hn3] at hsh
      subst hsh
      have Y26 := Ext.then Y25 hx
      replace BG := Blk.keep BG (hx)
      replace RL := Rd.keep RL (hx)
      refine hK _ _ Y26 ?_
      clear K hK hx hn1 hn2 hn3
      repeat (refine wpTO_val (by rfl) ?_; intro K hK; go_big_quiet_op; go_big_quiet_on)
      have q0 := BG.cell 0
      have q1 := BG.cell 1
      have q2 := BG.cell 2
      have f0 := BG.frozen 0
      have f1 := BG.frozen 1
      have f2 := BG.frozen 2
      refine wpTO_do (by rfl) ?_
      intro K hK
      go_simp
      refine hK _ _ (Ext.put (Ext.put (Ext.put Y26 (p := ⟨g, 0, none⟩) hgs (.slice A1 n1 c1)) (p := ⟨g, 1, none⟩) hgs (.slice A2 n2 c2)) (p := ⟨g, 2, none⟩) hgs (.slice A3 n3 c3)) ?_
      clear K hK
      repeat (refine wpTO_val (by rfl) ?_; intro K hK; go_big_quiet_op; go_big_quiet_on)
      refine wpTO_nil ?_
      refine ⟨rfl, gx, g, A1, n1, c1, A2, n2, c2, A3, n3, c3, rfl, hid (Ext.put (Ext.put (Ext.put Y26 (p := ⟨g, 0, none⟩) hgs (.slice A1 n1 c1)) (p := ⟨g, 1, none⟩) hgs (.slice A2 n2 c2)) (p := ⟨g, 2, none⟩) hgs (.slice A3 n3 c3)), hid ((((BG.set 0 (.slice A1 n1 c1)).set 1 (.slice A2 n2 c2)).set 2 (.slice A3 n3 c3)).cast (by simp)), hid (((FO.putB BG 0 _).putB (BG.set 0 _) 1 _).putB ((BG.set 0 _).set 1 _) 2 _).V⟩
  rintro xa ga A1a n1a c1a A2a n2a c2a A3a n3a c3a y1' ⟨XQ, Ba, Va⟩
  replace X := hid (X.out.then XQ.out)
  clear XQ
  clear p0 p1 p2 p0r p1r p2r
  go_wp2_with fail
  refine Calls.mono (fsBegun_any _) ?_
  rintro e w3 ⟨rfl, hx⟩
  replace X := hid (X.out.then hx)
  replace Va := hid (Va.out.keep hx)
  replace Ba := hid (Ba.out.keep hx)
  clear hx
  have a0 := Ba.out.cell 0
  have a1 := Ba.out.cell 1
  have a2 := Ba.out.cell 2
  go_wp2_with fail
  refine Calls.mono (HC1.out _ _ Va.out) ?_
  rintro e w4 ⟨v', he, hv, hx⟩
  rw [HQ1.out] at he hv
  obtain rfl := he
  obtain ⟨A1b, n1b, c1b, A2b, n2b, c2b, A3b, n3b, c3b, rfl⟩ := hv.shape
  have hn := Ext.new (ext_refl w4) (.cells #[.slice A1b n1b c1b, .slice A2b n2b c2b, .slice A3b n3b c3b] 25)
  have Bb := hid (Blk.new w4 25 #[.slice A1b n1b c1b, .slice A2b n2b c2b, .slice A3b n3b c3b])
  have Vb := hid (hv.keep hn)
  have hy := Ext.then hx hn
  replace X := hid (X.out.then hy)
  replace Va := hid (Va.out.keep hy)
  replace Ba := hid (Ba.out.keep hy)
  clear hx hv hn hy
  clear a0 a1 a2
  have b0 := Bb.out.cell 0
  have b1 := Bb.out.cell 1
  have b2 := Bb.out.cell 2
  go_wp2_with fail
  refine Calls.mono (read_any FB s _ _ Vb.out HBB.out) ?_
  rintro e w5 ⟨he, hx⟩
  obtain rfl : e = .returned (.tuple #[.string t, .int .i64 0]) := by rw [he, HQ2.out]; rfl
  replace X := hid (X.out.then hx)
  replace Vb := hid (Vb.out.keep hx)
  replace Bb := hid (Bb.out.keep hx)
  clear hx he b0 b1 b2
  have b0 := Bb.out.cell 0
  have b1 := Bb.out.cell 1
  have b2 := Bb.out.cell 2
  go_wp2_with fail
  rw [HXM.out]
  refine Calls.mono (HC2.out _ _ Vb.out) ?_
  rintro e w6 ⟨v', he, hv, hx⟩
  rw [HQ3.out] at he hv
  obtain rfl := he
  obtain ⟨A1c, n1c, c1c, A2c, n2c, c2c, A3c, n3c, c3c, rfl⟩ := hv.shape
  have hn := Ext.new (ext_refl w6) (.cells #[.slice A1c n1c c1c, .slice A2c n2c c2c, .slice A3c n3c c3c] 25)
  have Bc := hid (Blk.new w6 25 #[.slice A1c n1c c1c, .slice A2c n2c c2c, .slice A3c n3c c3c])
  have Vc := hid (hv.keep hn)
  have hy := Ext.then hx hn
  replace X := hid (X.out.then hy)
  replace Vb := hid (Vb.out.keep hy)
  replace Bb := hid (Bb.out.keep hy)
  clear hx hv hn hy
  clear b0 b1 b2
  have b0 := Bb.out.cell 0
  have b1 := Bb.out.cell 1
  have b2 := Bb.out.cell 2
  have c0 := Bc.out.cell 0
  have c1 := Bc.out.cell 1
  have c2 := Bc.out.cell 2
  go_wp2_with fail
  refine Calls.mono (sameFS_same FB _ _ _ Vc.out Vb.out HBB.out) ?_
  rintro e w7 ⟨rfl, hx⟩
  replace X := hid (X.out.then hx)
  replace Vb := hid (Vb.out.keep hx)
  replace Bb := hid (Bb.out.keep hx)
  clear hx
  clear b0 b1 b2 c0 c1 c2
  have b0 := Bb.out.cell 0
  have b1 := Bb.out.cell 1
  have b2 := Bb.out.cell 2
  go_wp2_with fail
  refine Calls.mono (check_V FB _ _ Vb.out HBB.out) ?_
  rintro e w8 ⟨he, hx⟩
  obtain rfl : e = .returned (.int .i64 0) := by rw [he, HQ4.out]; rfl
  replace X := hid (X.out.then hx)
  clear hx he
  go_wp2
  go_returns
  exact ⟨rfl, X.out⟩
theorem fsGood_any (f : Fs.FSy) (s t : ByteArray) (mk : Nat) (v : Value) (w : World) (hv : FsV w v f) (hb : Fs.FsB f) (hs : s.size ≤ 140737488355328) (ht : t.size ≤ 140737488355328) (hmk : mk < 18446744073709551616) :
    Calls Tryd.prog 6 #[v, .string s, .string t, .int .u64 mk] w fun e w' => e = .returned (.bool true) ∧ Ext w w' := by
  by_cases h0 : (Fs.ply f (Fs.gOps s t)).2 = 0
  · exact fsGood_ok f s t mk v w hv hb hs ht hmk h0
  · exact fsGood_err f s t mk v w hv hb hs ht hmk h0
end Go.Proofs.YtolhifnlahllnaaDoor
