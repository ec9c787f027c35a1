/-
  No cell of these rows narrows 'for every input' (looked for: loops, veiled, ifaces, maps, wideKeys, modest, calm, conditions, laid).
  DERIVED. THE GIVEN ROWS OF THIS SEAT. 6 by the template 'for every input the law returns true; each argument reads behind the call as it read before'; 0 by the template 'total and deterministic' (their statements: YthgnipangcmanaaGreatTotals.lean).
  GIVEN WITH THE SEED: the statements are not yours to turn. If you find one false, say at which input.
  Laid BY PROGRAM, IN A SANDBOX (cutbox-rows.mjs): the forced cells as the released guide's own fill.sh prints them over the translation 829e2769aa2e99a6… (all of the seat's roots in one cut). By AI agents, Wed Nov 11 2026. No macro, syntax, notation, axiom, sorry.
-/
import Derived.Test.YthgnipangcmanaaGreatChecked
import GoSem.Claim
import GoSem.ClaimJoined
import GoSem.ClaimMapViews
import Derived.JoinedTies
import Derived.KernelRfl
namespace Go.Proofs.YthgnipangcmanaaGreat
/- THE CELL 'sum', in the pinned program and in every row, IS THE sha256 OF THE DUMP (.gsa) THAT YthgnipangcmanaaGreatProg.lean LOADS. Nothing in Lean hashes anything: it is a label: what it is worth is what the hold of that sum in a sandbox is worth. -/
noncomputable def Tryz.pinned : Pinned := { name := "ythgnipangcmanaagreat", sum := "829e2769aa2e99a651d91256f0094a885b3fd366426c9b402f8aae38dfa2d78a", checked := Tryz.checked }
namespace Rows
def none {H : Type} : Left H := { results := [], args := [] }

/-- 'hypostylelaw.PageTells': WHATEVER THE INPUT: true; the input reads as it did. -/
def pageTellsSpec : ChangeSpec := { name := "pageTells", fn := fun _ => fun
  | [d1, d2] => { results := [.lit (.bool true)], args := [d1, d2] }
  | _ => none }
def pageTellsRow : OpenClaim := { program := "ythgnipangcmanaagreat", sum := "829e2769aa2e99a651d91256f0094a885b3fd366426c9b402f8aae38dfa2d78a", func := "hypostyle/hypostylelaw.PageTells", spec := "pageTells", inPlace := ["math/bits.Add64"], unfollowed := true, recurses := true, apart := false }
def PageTellsSaid : Prop := pageTellsRow.holds Tryz.pinned (OpenSpec.ofChange pageTellsSpec)

/-- ITS FALSE NEIGHBOUR: 'it returns false'. Refute it at one input. -/
def pageTellsWrong : ChangeSpec := { name := "pageTells", fn := fun _ => fun
  | [d1, d2] => { results := [.lit (.bool false)], args := [d1, d2] }
  | _ => none }
def PageTellsWrongFalsely : Prop := pageTellsRow.holds Tryz.pinned (OpenSpec.ofChange pageTellsWrong)

/-- 'hypostylelaw.PageReads': WHATEVER THE INPUT: true; the input reads as it did. -/
def pageReadsSpec : ChangeSpec := { name := "pageReads", fn := fun _ => fun
  | [d] => { results := [.lit (.bool true)], args := [d] }
  | _ => none }
def pageReadsRow : OpenClaim := { program := "ythgnipangcmanaagreat", sum := "829e2769aa2e99a651d91256f0094a885b3fd366426c9b402f8aae38dfa2d78a", func := "hypostyle/hypostylelaw.PageReads", spec := "pageReads", inPlace := ["math/bits.Add64"], unfollowed := true, recurses := true, apart := false }
def PageReadsSaid : Prop := pageReadsRow.holds Tryz.pinned (OpenSpec.ofChange pageReadsSpec)

/-- ITS FALSE NEIGHBOUR: 'it returns false'. Refute it at one input. -/
def pageReadsWrong : ChangeSpec := { name := "pageReads", fn := fun _ => fun
  | [d] => { results := [.lit (.bool false)], args := [d] }
  | _ => none }
def PageReadsWrongFalsely : Prop := pageReadsRow.holds Tryz.pinned (OpenSpec.ofChange pageReadsWrong)

/-- 'hypostylelaw.PageBack': WHATEVER THE INPUT: true; the input reads as it did. -/
def pageBackSpec : ChangeSpec := { name := "pageBack", fn := fun _ => fun
  | [d1, d2, d3] => { results := [.lit (.bool true)], args := [d1, d2, d3] }
  | _ => none }
def pageBackRow : OpenClaim := { program := "ythgnipangcmanaagreat", sum := "829e2769aa2e99a651d91256f0094a885b3fd366426c9b402f8aae38dfa2d78a", func := "hypostyle/hypostylelaw.PageBack", spec := "pageBack", inPlace := ["math/bits.Add64"], unfollowed := true, recurses := true, apart := false }
def PageBackSaid : Prop := pageBackRow.holds Tryz.pinned (OpenSpec.ofChange pageBackSpec)

/-- ITS FALSE NEIGHBOUR: 'it returns false'. Refute it at one input. -/
def pageBackWrong : ChangeSpec := { name := "pageBack", fn := fun _ => fun
  | [d1, d2, d3] => { results := [.lit (.bool false)], args := [d1, d2, d3] }
  | _ => none }
def PageBackWrongFalsely : Prop := pageBackRow.holds Tryz.pinned (OpenSpec.ofChange pageBackWrong)

/-- 'hypostylelaw.PageHurt': WHATEVER THE INPUT: true; the input reads as it did. -/
def pageHurtSpec : ChangeSpec := { name := "pageHurt", fn := fun _ => fun
  | [d1, d2, d3, d4] => { results := [.lit (.bool true)], args := [d1, d2, d3, d4] }
  | _ => none }
def pageHurtRow : OpenClaim := { program := "ythgnipangcmanaagreat", sum := "829e2769aa2e99a651d91256f0094a885b3fd366426c9b402f8aae38dfa2d78a", func := "hypostyle/hypostylelaw.PageHurt", spec := "pageHurt", inPlace := ["math/bits.Add64"], unfollowed := true, recurses := true, apart := false }
def PageHurtSaid : Prop := pageHurtRow.holds Tryz.pinned (OpenSpec.ofChange pageHurtSpec)

/-- ITS FALSE NEIGHBOUR: 'it returns false'. Refute it at one input. -/
def pageHurtWrong : ChangeSpec := { name := "pageHurt", fn := fun _ => fun
  | [d1, d2, d3, d4] => { results := [.lit (.bool false)], args := [d1, d2, d3, d4] }
  | _ => none }
def PageHurtWrongFalsely : Prop := pageHurtRow.holds Tryz.pinned (OpenSpec.ofChange pageHurtWrong)

/-- 'hypostylelaw.PageSwap': WHATEVER THE INPUT: true; the input reads as it did. -/
def pageSwapSpec : ChangeSpec := { name := "pageSwap", fn := fun _ => fun
  | [d1, d2, d3] => { results := [.lit (.bool true)], args := [d1, d2, d3] }
  | _ => none }
def pageSwapRow : OpenClaim := { program := "ythgnipangcmanaagreat", sum := "829e2769aa2e99a651d91256f0094a885b3fd366426c9b402f8aae38dfa2d78a", func := "hypostyle/hypostylelaw.PageSwap", spec := "pageSwap", inPlace := ["math/bits.Add64"], unfollowed := true, recurses := true, apart := false }
def PageSwapSaid : Prop := pageSwapRow.holds Tryz.pinned (OpenSpec.ofChange pageSwapSpec)

/-- ITS FALSE NEIGHBOUR: 'it returns false'. Refute it at one input. -/
def pageSwapWrong : ChangeSpec := { name := "pageSwap", fn := fun _ => fun
  | [d1, d2, d3] => { results := [.lit (.bool false)], args := [d1, d2, d3] }
  | _ => none }
def PageSwapWrongFalsely : Prop := pageSwapRow.holds Tryz.pinned (OpenSpec.ofChange pageSwapWrong)

/-- 'hypostylelaw.PageCut': WHATEVER THE INPUT: true; the input reads as it did. -/
def pageCutSpec : ChangeSpec := { name := "pageCut", fn := fun _ => fun
  | [d1, d2, d3] => { results := [.lit (.bool true)], args := [d1, d2, d3] }
  | _ => none }
def pageCutRow : OpenClaim := { program := "ythgnipangcmanaagreat", sum := "829e2769aa2e99a651d91256f0094a885b3fd366426c9b402f8aae38dfa2d78a", func := "hypostyle/hypostylelaw.PageCut", spec := "pageCut", inPlace := ["math/bits.Add64"], unfollowed := true, recurses := true, apart := false }
def PageCutSaid : Prop := pageCutRow.holds Tryz.pinned (OpenSpec.ofChange pageCutSpec)

/-- ITS FALSE NEIGHBOUR: 'it returns false'. Refute it at one input. -/
def pageCutWrong : ChangeSpec := { name := "pageCut", fn := fun _ => fun
  | [d1, d2, d3] => { results := [.lit (.bool false)], args := [d1, d2, d3] }
  | _ => none }
def PageCutWrongFalsely : Prop := pageCutRow.holds Tryz.pinned (OpenSpec.ofChange pageCutWrong)

/- THE SECOND FORM. 'bulk': how many values and letters a reading holds, each counted each time it is reached (what is shared counts as often as it is met; a slice's spare places count too). A statement '..UptoSaid' is the law's where the arguments, and the package variables that the reading takes, are together of bulk at most 1048576: NARROWER than '..Said'. Prove '..Said' where nothing that the law and all that it calls make is longer than what came in: it says more and counts as full. Else prove '..UptoSaid'. A law counts once. -/
mutual
def uptoBulk {H : Type} : DataW H → Nat
  | .lit (.string bytes) => bytes.length + 1
  | .lit _ => 1
  | .nil => 1
  | .ptr d => uptoBulk d + 1
  | .slice elems spare => uptoBulkAll elems + uptoBulkAll spare + 1
  | .agg parts => uptoBulkAll parts + 1
  | .iface _ d => uptoBulk d + 1
  | .map entries => uptoBulkEntries entries + 1
  | .held _ => 1
def uptoBulkAll {H : Type} : List (DataW H) → Nat
  | [] => 0
  | d :: r => uptoBulk d + uptoBulkAll r
def uptoBulkEntries {H : Type} : List (Lit × DataW H) → Nat
  | [] => 0
  | x :: r => uptoBulkEntry x + uptoBulkEntries r
def uptoBulkEntry {H : Type} : Lit × DataW H → Nat
  | (.string bytes, d) => bytes.length + uptoBulk d + 1
  | (_, d) => uptoBulk d + 1
 end
def uptoSmall : (H : Type) → List (DataW H) → Bool := fun _ ds => decide (uptoBulkAll ds ≤ 1048576)
def OpenSpec.upto (s : _root_.Go.ChangeSpec) : _root_.Go.OpenSpec := { _root_.Go.OpenSpec.ofChange s with cond := some uptoSmall }

/-- 'hypostylelaw.PageTells', WHERE WHAT IT READS IS OF BULK AT MOST 1048576: true; the input reads as it did. -/
def pageTellsUptoRow : OpenClaim := { program := "ythgnipangcmanaagreat", sum := "829e2769aa2e99a651d91256f0094a885b3fd366426c9b402f8aae38dfa2d78a", func := "hypostyle/hypostylelaw.PageTells", spec := "pageTells", inPlace := ["math/bits.Add64"], unfollowed := true, recurses := true, apart := false, narrowed := true }
def PageTellsUptoSaid : Prop := pageTellsUptoRow.holds Tryz.pinned (OpenSpec.upto pageTellsSpec)

/-- 'hypostylelaw.PageReads', WHERE WHAT IT READS IS OF BULK AT MOST 1048576: true; the input reads as it did. -/
def pageReadsUptoRow : OpenClaim := { program := "ythgnipangcmanaagreat", sum := "829e2769aa2e99a651d91256f0094a885b3fd366426c9b402f8aae38dfa2d78a", func := "hypostyle/hypostylelaw.PageReads", spec := "pageReads", inPlace := ["math/bits.Add64"], unfollowed := true, recurses := true, apart := false, narrowed := true }
def PageReadsUptoSaid : Prop := pageReadsUptoRow.holds Tryz.pinned (OpenSpec.upto pageReadsSpec)

/-- 'hypostylelaw.PageBack', WHERE WHAT IT READS IS OF BULK AT MOST 1048576: true; the input reads as it did. -/
def pageBackUptoRow : OpenClaim := { program := "ythgnipangcmanaagreat", sum := "829e2769aa2e99a651d91256f0094a885b3fd366426c9b402f8aae38dfa2d78a", func := "hypostyle/hypostylelaw.PageBack", spec := "pageBack", inPlace := ["math/bits.Add64"], unfollowed := true, recurses := true, apart := false, narrowed := true }
def PageBackUptoSaid : Prop := pageBackUptoRow.holds Tryz.pinned (OpenSpec.upto pageBackSpec)

/-- 'hypostylelaw.PageHurt', WHERE WHAT IT READS IS OF BULK AT MOST 1048576: true; the input reads as it did. -/
def pageHurtUptoRow : OpenClaim := { program := "ythgnipangcmanaagreat", sum := "829e2769aa2e99a651d91256f0094a885b3fd366426c9b402f8aae38dfa2d78a", func := "hypostyle/hypostylelaw.PageHurt", spec := "pageHurt", inPlace := ["math/bits.Add64"], unfollowed := true, recurses := true, apart := false, narrowed := true }
def PageHurtUptoSaid : Prop := pageHurtUptoRow.holds Tryz.pinned (OpenSpec.upto pageHurtSpec)

/-- 'hypostylelaw.PageSwap', WHERE WHAT IT READS IS OF BULK AT MOST 1048576: true; the input reads as it did. -/
def pageSwapUptoRow : OpenClaim := { program := "ythgnipangcmanaagreat", sum := "829e2769aa2e99a651d91256f0094a885b3fd366426c9b402f8aae38dfa2d78a", func := "hypostyle/hypostylelaw.PageSwap", spec := "pageSwap", inPlace := ["math/bits.Add64"], unfollowed := true, recurses := true, apart := false, narrowed := true }
def PageSwapUptoSaid : Prop := pageSwapUptoRow.holds Tryz.pinned (OpenSpec.upto pageSwapSpec)

/-- 'hypostylelaw.PageCut', WHERE WHAT IT READS IS OF BULK AT MOST 1048576: true; the input reads as it did. -/
def pageCutUptoRow : OpenClaim := { program := "ythgnipangcmanaagreat", sum := "829e2769aa2e99a651d91256f0094a885b3fd366426c9b402f8aae38dfa2d78a", func := "hypostyle/hypostylelaw.PageCut", spec := "pageCut", inPlace := ["math/bits.Add64"], unfollowed := true, recurses := true, apart := false, narrowed := true }
def PageCutUptoSaid : Prop := pageCutUptoRow.holds Tryz.pinned (OpenSpec.upto pageCutSpec)

end Rows
end Go.Proofs.YthgnipangcmanaaGreat
