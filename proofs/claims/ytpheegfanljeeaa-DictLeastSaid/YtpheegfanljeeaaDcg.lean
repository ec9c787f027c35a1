/- Dict: the closed test: walk (printed by gen_dcg.py). -/
import Derived.Test.YtpheegfanljeeaaDcd
import Derived.Test.YtpheegfanljeeaaDcf
import Derived.Test.YtpheegfanljeeaaTsm
import Derived.Test.YtpheegfanljeeaaSnm
namespace Hy.Dct
open Go
theorem sorted_ext : ∀ (a b : List T), a.Pairwise (· < ·) → b.Pairwise (· < ·) → (∀ x, x ∈ a ↔ x ∈ b) → a = b
  | [], [], _, _, _ => rfl
  | [], y :: b, _, _, h => absurd ((h y).2 (by simp)) (by simp)
  | x :: a, [], _, _, h => absurd ((h x).1 (by simp)) (by simp)
  | x :: a, y :: b, ha, hb, h => by
    obtain ⟨a1, a2⟩ := List.pairwise_cons.1 ha
    obtain ⟨b1, b2⟩ := List.pairwise_cons.1 hb
    have hxy : x = y := by
      rcases List.mem_cons.1 ((h x).1 (by simp)) with e | e
      · exact e
      · rcases List.mem_cons.1 ((h y).2 (by simp)) with e2 | e2
        · exact e2.symm
        · exact absurd (b1 x e) (lt_asy (a1 y e2))
    subst hxy
    rw [sorted_ext a b a2 b2 fun z => ?_]
    constructor
    · intro hz
      rcases List.mem_cons.1 ((h z).1 (by simp [hz])) with e | e
      · subst e; exact absurd (a1 _ hz) (lt_irr _)
      · exact e
    · intro hz
      rcases List.mem_cons.1 ((h z).2 (by simp [hz])) with e | e
      · subst e; exact absurd (b1 _ hz) (lt_irr _)
      · exact e
theorem bk_a : bk [[114, 111, 111, 107], [119, 114, 101, 110], [114, 111, 111, 107], [114, 111, 111, 107, 115]] = [[114, 111, 111, 107], [114, 111, 111, 107, 115], [119, 114, 101, 110]] := by
  obtain ⟨h1, h2⟩ := bk_spec [[114, 111, 111, 107], [119, 114, 101, 110], [114, 111, 111, 107], [114, 111, 111, 107, 115]]
  refine sorted_ext _ _ h1 ((asc_iff _).1 (by decide +kernel)) fun x => ?_
  rw [h2]
  simp only [List.mem_cons, List.not_mem_nil, or_false]
  constructor
  · rintro (h | h | h | h) <;> subst h <;> simp
  · rintro (h | h | h) <;> subst h <;> simp
theorem of_a : of [[114, 111, 111, 107], [119, 114, 101, 110], [114, 111, 111, 107], [114, 111, 111, 107, 115]] = ([[114, 111, 111, 107], [114, 111, 111, 107, 115], [119, 114, 101, 110]], [0, 2, 0, 1], 0) := by
  rw [of_ok (by decide +kernel)]
  unfold cds
  rw [bk_a]
  have h : [[114, 111, 111, 107], [119, 114, 101, 110], [114, 111, 111, 107], [114, 111, 111, 107, 115]].map (plc [[114, 111, 111, 107], [114, 111, 111, 107, 115], [119, 114, 101, 110]]) = [0, 2, 0, 1] := by decide +kernel
  rw [h]
theorem txt_a : txt [[114, 111, 111, 107], [114, 111, 111, 107, 115], [119, 114, 101, 110]] [2, 0] = ([[119, 114, 101, 110], [114, 111, 111, 107]], 0) := by decide +kernel
theorem chk_a : chk [[114, 111, 111, 107], [114, 111, 111, 107, 115], [119, 114, 101, 110]] = 0 := by decide +kernel
theorem fnd_a : fnd [[114, 111, 111, 107], [114, 111, 111, 107, 115], [119, 114, 101, 110]] [115] = (2, false) := by decide +kernel
theorem spn_a : spn [[114, 111, 111, 107], [114, 111, 111, 107, 115], [119, 114, 101, 110]] [114, 111, 111, 107] [114, 111, 111, 107, 121] = (0, 2) := by decide +kernel
theorem chk_b : chk [[98], [97]] = 4 := by decide +kernel
end Hy.Dct
namespace Go.Proofs.Ytpheegfanljeeaa
open Go.RowKit Hy
theorem textsF_any (A : Option Addr) (n c : Nat) (w : World) : Calls Try.prog 62 #[.slice A n c] w fun e w' => e = .returned (.slice A n c) ∧ w = w' := by
  go_enter Try.func62, Try.ntmps62
  go_wp2
  go_returns
  exact ⟨rfl, rfl⟩
theorem sameTexts_self (a : List (List UInt8)) (A B : Option Addr) (n ca cb : Nat) (w : World) (hn : a.length = n) (ha : Rd w A (txs a)) (hb : Rd w B (txs a)) (hnl : n ≤ 140737488355328) :
    Calls Try.prog 30 #[.slice A n ca, .slice B n cb] w fun e w' => e = .returned (.bool true) ∧ Ext w w' := by
  have h := sameTexts_any a a A B n n ca cb w hn hn ha hb hnl
  rw [show sameTexts a a = true from decide_eq_true rfl] at h; exact h
theorem dOf_of (l : List (List UInt8)) (b : List (List UInt8)) (c : List Nat) (er : Nat) (A : Option Addr) (n cap : Nat) (w : World) (hn : l.length = n) (hr : Rd w A (txs l)) (hA : A = none → n = 0) (hnl : n ≤ 140737488355328) (h : Dct.of l = (b, c, er)) :
    Calls Try.prog 26 #[.slice A n cap] w fun e w' => ∃ B cb C cc, e = .returned (.tuple #[.slice B b.length cb, .slice C c.length cc, .int .i64 er]) ∧ Rd w' B (txs b) ∧ Rd w' C (u64s c) ∧ Ext w w' := by
  have h1 := dOf_any l A n cap w hn hr hA hnl
  rw [h] at h1; exact h1
set_option maxRecDepth 100000 in
set_option maxHeartbeats 3200000 in
theorem dictBegun_any (w : World) : Calls Try.prog 29 #[] w fun e w' => e = .returned (.bool true) ∧ Ext w w' := by
  have R0 := hid (rd_lit (w := w) (g := w.heap.size) (C := #[.string ⟨#[114, 111, 111, 107]⟩, .string ⟨#[119, 114, 101, 110]⟩, .string ⟨#[114, 111, 111, 107]⟩, .string ⟨#[114, 111, 111, 107, 115]⟩]) (e := 9) (fz := (0, 0)) (cs := txs [[114, 111, 111, 107], [119, 114, 101, 110], [114, 111, 111, 107], [114, 111, 111, 107, 115]]) rfl rfl)
  have CF := hid (fun b A n c s wx hn hr hnl => dFind_any b A n c s wx hn hr hnl)
  go_enter Try.func29, Try.ntmps29
  go_wp2_with fail
  refine Calls.mono (textsF_any _ 4 4 _) ?_
  rintro e _ ⟨rfl, rfl⟩
  go_wp2_with fail
  refine Calls.mono (dOf_of [[114, 111, 111, 107], [119, 114, 101, 110], [114, 111, 111, 107], [114, 111, 111, 107, 115]] _ _ _ _ 4 4 _ rfl R0.out (fun h => by cases h) (by decide) Dct.of_a) ?_
  rintro e w1 ⟨B, cb, C, cc, rfl, h1, h2, hx⟩
  have Xp := hid (((ext_refl w).new _).then hx)
  have RB := hid h1
  have RC := hid h2
  clear hx h1 h2 R0
  go_wp2_with fail
  have RN := hid (rd_lit (w := w1) (g := w1.heap.size) (C := #[.int .u64 2, .int .u64 0]) (e := 35) (fz := (0, 0)) (cs := u64s [2, 0]) rfl rfl)
  replace RB := hid (RB.out.keep (Ext.new (ext_refl _) (.cells #[.int .u64 2, .int .u64 0] 35)))
  replace RC := hid (RC.out.keep (Ext.new (ext_refl _) (.cells #[.int .u64 2, .int .u64 0] 35)))
  replace Xp := hid (Ext.new Xp.out (.cells #[.int .u64 2, .int .u64 0] 35))
  have CT := dTexts_any [[114, 111, 111, 107], [114, 111, 111, 107, 115], [119, 114, 101, 110]] [2, 0] B (some ⟨w1.heap.size, 0, none⟩) 3 2 cb 2 _ rfl rfl RB.out RN.out (by decide) (by decide) (by decide)
  rw [Dct.txt_a] at CT
  refine Calls.mono CT ?_
  clear CT
  rintro e w2 ⟨T1, ct, rfl, h1, hx⟩
  have RT := hid h1
  clear h1 RN
  replace Xp := hid (Xp.out.then hx)
  replace RB := hid (RB.out.keep hx)
  replace RC := hid (RC.out.keep hx)
  clear hx
  go_wp2_with fail
  have CT := dFind_any [[114, 111, 111, 107], [114, 111, 111, 107, 115], [119, 114, 101, 110]] B 3 cb ⟨#[115]⟩ _ rfl RB.out (by decide)
  rw [show (⟨#[115]⟩ : ByteArray).data.toList = [115] from rfl, Dct.fnd_a, Dct.chk_a] at CT
  refine Calls.mono CT ?_
  clear CT
  rintro e w3 ⟨rfl, hx⟩
  replace Xp := hid (Xp.out.then hx)
  replace RB := hid (RB.out.keep hx)
  replace RC := hid (RC.out.keep hx)
  replace RT := hid (RT.out.keep hx)
  clear hx
  go_wp2_with fail
  have CT := dSpan_any [[114, 111, 111, 107], [114, 111, 111, 107, 115], [119, 114, 101, 110]] B 3 cb ⟨#[114, 111, 111, 107]⟩ ⟨#[114, 111, 111, 107, 121]⟩ _ rfl RB.out (by decide)
  rw [show (⟨#[114, 111, 111, 107]⟩ : ByteArray).data.toList = [114, 111, 111, 107] from rfl, show (⟨#[114, 111, 111, 107, 121]⟩ : ByteArray).data.toList = [114, 111, 111, 107, 121] from rfl, Dct.spn_a, Dct.chk_a] at CT
  refine Calls.mono CT ?_
  clear CT
  rintro e w4 ⟨rfl, hx⟩
  replace Xp := hid (Xp.out.then hx)
  replace RB := hid (RB.out.keep hx)
  replace RC := hid (RC.out.keep hx)
  replace RT := hid (RT.out.keep hx)
  clear hx
  go_wp2_with fail
  have RL := hid (rd_lit (w := w4) (g := w4.heap.size) (C := #[.string ⟨#[114, 111, 111, 107]⟩, .string ⟨#[114, 111, 111, 107, 115]⟩, .string ⟨#[119, 114, 101, 110]⟩]) (e := 9) (fz := (0, 0)) (cs := txs [[114, 111, 111, 107], [114, 111, 111, 107, 115], [119, 114, 101, 110]]) rfl rfl)
  replace RB := hid (RB.out.keep (Ext.new (ext_refl _) (.cells #[.string ⟨#[114, 111, 111, 107]⟩, .string ⟨#[114, 111, 111, 107, 115]⟩, .string ⟨#[119, 114, 101, 110]⟩] 9)))
  replace RC := hid (RC.out.keep (Ext.new (ext_refl _) (.cells #[.string ⟨#[114, 111, 111, 107]⟩, .string ⟨#[114, 111, 111, 107, 115]⟩, .string ⟨#[119, 114, 101, 110]⟩] 9)))
  replace RT := hid (RT.out.keep (Ext.new (ext_refl _) (.cells #[.string ⟨#[114, 111, 111, 107]⟩, .string ⟨#[114, 111, 111, 107, 115]⟩, .string ⟨#[119, 114, 101, 110]⟩] 9)))
  replace Xp := hid (Ext.new Xp.out (.cells #[.string ⟨#[114, 111, 111, 107]⟩, .string ⟨#[114, 111, 111, 107, 115]⟩, .string ⟨#[119, 114, 101, 110]⟩] 9))
  refine Calls.mono (textsF_any _ 3 3 _) ?_
  rintro e _ ⟨rfl, rfl⟩
  go_wp2_with fail
  refine Calls.mono (sameTexts_self [[114, 111, 111, 107], [114, 111, 111, 107, 115], [119, 114, 101, 110]] B _ 3 cb 3 _ rfl RB.out RL.out (by decide)) ?_
  rintro e w5 ⟨rfl, hx⟩
  clear RL
  replace Xp := hid (Xp.out.then hx)
  replace RC := hid (RC.out.keep hx)
  replace RT := hid (RT.out.keep hx)
  clear hx
  go_wp2_with fail
  have RN := hid (rd_lit (w := w5) (g := w5.heap.size) (C := #[.int .u64 0, .int .u64 2, .int .u64 0, .int .u64 1]) (e := 35) (fz := (0, 0)) (cs := u64s [0, 2, 0, 1]) rfl rfl)
  replace RC := hid (RC.out.keep (Ext.new (ext_refl _) (.cells #[.int .u64 0, .int .u64 2, .int .u64 0, .int .u64 1] 35)))
  replace RT := hid (RT.out.keep (Ext.new (ext_refl _) (.cells #[.int .u64 0, .int .u64 2, .int .u64 0, .int .u64 1] 35)))
  replace Xp := hid (Ext.new Xp.out (.cells #[.int .u64 0, .int .u64 2, .int .u64 0, .int .u64 1] 35))
  refine Calls.mono (sameNums_self [0, 2, 0, 1] C _ 4 cc 4 _ rfl RC.out RN.out (by decide)) ?_
  rintro e w6 ⟨rfl, hx⟩
  clear RN
  replace Xp := hid (Xp.out.then hx)
  replace RT := hid (RT.out.keep hx)
  clear hx
  go_wp2_with fail
  have RL := hid (rd_lit (w := w6) (g := w6.heap.size) (C := #[.string ⟨#[119, 114, 101, 110]⟩, .string ⟨#[114, 111, 111, 107]⟩]) (e := 9) (fz := (0, 0)) (cs := txs [[119, 114, 101, 110], [114, 111, 111, 107]]) rfl rfl)
  replace RT := hid (RT.out.keep (Ext.new (ext_refl _) (.cells #[.string ⟨#[119, 114, 101, 110]⟩, .string ⟨#[114, 111, 111, 107]⟩] 9)))
  replace Xp := hid (Ext.new Xp.out (.cells #[.string ⟨#[119, 114, 101, 110]⟩, .string ⟨#[114, 111, 111, 107]⟩] 9))
  refine Calls.mono (textsF_any _ 2 2 _) ?_
  rintro e _ ⟨rfl, rfl⟩
  go_wp2_with fail
  refine Calls.mono (sameTexts_self [[119, 114, 101, 110], [114, 111, 111, 107]] T1 _ 2 ct 2 _ rfl RT.out RL.out (by decide)) ?_
  rintro e w7 ⟨rfl, hx⟩
  clear RL
  replace Xp := hid (Xp.out.then hx)
  clear hx
  go_wp2_with fail
  have RL := hid (rd_lit (w := w7) (g := w7.heap.size) (C := #[.string ⟨#[98]⟩, .string ⟨#[97]⟩]) (e := 9) (fz := (0, 0)) (cs := txs [[98], [97]]) rfl rfl)
  replace Xp := hid (Ext.new Xp.out (.cells #[.string ⟨#[98]⟩, .string ⟨#[97]⟩] 9))
  refine Calls.mono (textsF_any _ 2 2 _) ?_
  rintro e _ ⟨rfl, rfl⟩
  go_wp2_with fail
  have CT := dCheck_any [[98], [97]] _ 2 2 _ rfl RL.out (by decide)
  rw [Dct.chk_b] at CT
  refine Calls.mono CT ?_
  clear CT
  rintro e w8 ⟨rfl, hx⟩
  replace Xp := hid (Xp.out.then hx)
  clear hx
  go_wp2
  go_returns
  exact ⟨rfl, Xp.out⟩
end Go.Proofs.Ytpheegfanljeeaa
