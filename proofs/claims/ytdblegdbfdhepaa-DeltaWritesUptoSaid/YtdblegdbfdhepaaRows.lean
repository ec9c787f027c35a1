/-
  No cell of these rows narrows 'for every input' (looked for: loops, veiled, ifaces, maps, wideKeys, modest, calm, conditions, laid).
  DERIVED. THE GIVEN ROWS OF THIS SEAT. 17 by the template 'for every input the law returns true; each argument reads behind the call as it read before'; 0 by the template 'total and deterministic' (their statements: YtdblegdbfdhepaaTotals.lean).
  GIVEN WITH THE SEED: the statements are not yours to turn. If you find one false, say at which input.
  Laid BY PROGRAM, IN A SANDBOX (cutbox-rows.mjs): the forced cells as the released guide's own fill.sh prints them over the translation cd8e024afa7f11cd… (all of the seat's roots in one cut). By AI agents, Wed Nov 11 2026. No macro, syntax, notation, axiom, sorry.
-/
import Derived.Test.YtdblegdbfdhepaaChecked
import GoSem.Claim
import GoSem.ClaimJoined
import GoSem.ClaimMapViews
import Derived.JoinedTies
import Derived.KernelRfl
namespace Go.Proofs.Ytdblegdbfdhepaa
/- THE CELL 'sum', in the pinned program and in every row, IS THE sha256 OF THE DUMP (.gsa) THAT YtdblegdbfdhepaaProg.lean LOADS. Nothing in Lean hashes anything: it is a label: what it is worth is what the hold of that sum in a sandbox is worth. -/
noncomputable def Try.pinned : Pinned := { name := "ytdblegdbfdhepaa", sum := "cd8e024afa7f11cd4d15fe878031c49f02d74d8c9210b32c7c6eb9004a256917", checked := Try.checked }
namespace Rows
def none {H : Type} : Left H := { results := [], args := [] }

/-- 'hypostylelaw.HybridTells': WHATEVER THE INPUT: true; the input reads as it did. -/
def hybridTellsSpec : ChangeSpec := { name := "hybridTells", fn := fun _ => fun
  | [d1, d2] => { results := [.lit (.bool true)], args := [d1, d2] }
  | _ => none }
def hybridTellsRow : OpenClaim := { program := "ytdblegdbfdhepaa", sum := "cd8e024afa7f11cd4d15fe878031c49f02d74d8c9210b32c7c6eb9004a256917", func := "hypostyle/hypostylelaw.HybridTells", spec := "hybridTells", unfollowed := true, recurses := true, apart := false }
def HybridTellsSaid : Prop := hybridTellsRow.holds Try.pinned (OpenSpec.ofChange hybridTellsSpec)

/-- ITS FALSE NEIGHBOUR: 'it returns false'. Refute it at one input. -/
def hybridTellsWrong : ChangeSpec := { name := "hybridTells", fn := fun _ => fun
  | [d1, d2] => { results := [.lit (.bool false)], args := [d1, d2] }
  | _ => none }
def HybridTellsWrongFalsely : Prop := hybridTellsRow.holds Try.pinned (OpenSpec.ofChange hybridTellsWrong)

/-- 'hypostylelaw.HybridReads': WHATEVER THE INPUT: true; the input reads as it did. -/
def hybridReadsSpec : ChangeSpec := { name := "hybridReads", fn := fun _ => fun
  | [d1, d2, d3] => { results := [.lit (.bool true)], args := [d1, d2, d3] }
  | _ => none }
def hybridReadsRow : OpenClaim := { program := "ytdblegdbfdhepaa", sum := "cd8e024afa7f11cd4d15fe878031c49f02d74d8c9210b32c7c6eb9004a256917", func := "hypostyle/hypostylelaw.HybridReads", spec := "hybridReads", unfollowed := true, recurses := true, apart := false }
def HybridReadsSaid : Prop := hybridReadsRow.holds Try.pinned (OpenSpec.ofChange hybridReadsSpec)

/-- ITS FALSE NEIGHBOUR: 'it returns false'. Refute it at one input. -/
def hybridReadsWrong : ChangeSpec := { name := "hybridReads", fn := fun _ => fun
  | [d1, d2, d3] => { results := [.lit (.bool false)], args := [d1, d2, d3] }
  | _ => none }
def HybridReadsWrongFalsely : Prop := hybridReadsRow.holds Try.pinned (OpenSpec.ofChange hybridReadsWrong)

/-- 'hypostylelaw.HybridBack': WHATEVER THE INPUT: true; the input reads as it did. -/
def hybridBackSpec : ChangeSpec := { name := "hybridBack", fn := fun _ => fun
  | [d1, d2] => { results := [.lit (.bool true)], args := [d1, d2] }
  | _ => none }
def hybridBackRow : OpenClaim := { program := "ytdblegdbfdhepaa", sum := "cd8e024afa7f11cd4d15fe878031c49f02d74d8c9210b32c7c6eb9004a256917", func := "hypostyle/hypostylelaw.HybridBack", spec := "hybridBack", unfollowed := true, recurses := true, apart := false }
def HybridBackSaid : Prop := hybridBackRow.holds Try.pinned (OpenSpec.ofChange hybridBackSpec)

/-- ITS FALSE NEIGHBOUR: 'it returns false'. Refute it at one input. -/
def hybridBackWrong : ChangeSpec := { name := "hybridBack", fn := fun _ => fun
  | [d1, d2] => { results := [.lit (.bool false)], args := [d1, d2] }
  | _ => none }
def HybridBackWrongFalsely : Prop := hybridBackRow.holds Try.pinned (OpenSpec.ofChange hybridBackWrong)

/-- 'hypostylelaw.HybridJoins': WHATEVER THE INPUT: true; the input reads as it did. -/
def hybridJoinsSpec : ChangeSpec := { name := "hybridJoins", fn := fun _ => fun
  | [d1, d2, d3] => { results := [.lit (.bool true)], args := [d1, d2, d3] }
  | _ => none }
def hybridJoinsRow : OpenClaim := { program := "ytdblegdbfdhepaa", sum := "cd8e024afa7f11cd4d15fe878031c49f02d74d8c9210b32c7c6eb9004a256917", func := "hypostyle/hypostylelaw.HybridJoins", spec := "hybridJoins", unfollowed := true, recurses := true, apart := false }
def HybridJoinsSaid : Prop := hybridJoinsRow.holds Try.pinned (OpenSpec.ofChange hybridJoinsSpec)

/-- ITS FALSE NEIGHBOUR: 'it returns false'. Refute it at one input. -/
def hybridJoinsWrong : ChangeSpec := { name := "hybridJoins", fn := fun _ => fun
  | [d1, d2, d3] => { results := [.lit (.bool false)], args := [d1, d2, d3] }
  | _ => none }
def HybridJoinsWrongFalsely : Prop := hybridJoinsRow.holds Try.pinned (OpenSpec.ofChange hybridJoinsWrong)

/-- 'hypostylelaw.HybridShort': WHATEVER THE INPUT: true; the input reads as it did. -/
def hybridShortSpec : ChangeSpec := { name := "hybridShort", fn := fun _ => fun
  | [d1, d2] => { results := [.lit (.bool true)], args := [d1, d2] }
  | _ => none }
def hybridShortRow : OpenClaim := { program := "ytdblegdbfdhepaa", sum := "cd8e024afa7f11cd4d15fe878031c49f02d74d8c9210b32c7c6eb9004a256917", func := "hypostyle/hypostylelaw.HybridShort", spec := "hybridShort", unfollowed := true, recurses := true, apart := false }
def HybridShortSaid : Prop := hybridShortRow.holds Try.pinned (OpenSpec.ofChange hybridShortSpec)

/-- ITS FALSE NEIGHBOUR: 'it returns false'. Refute it at one input. -/
def hybridShortWrong : ChangeSpec := { name := "hybridShort", fn := fun _ => fun
  | [d1, d2] => { results := [.lit (.bool false)], args := [d1, d2] }
  | _ => none }
def HybridShortWrongFalsely : Prop := hybridShortRow.holds Try.pinned (OpenSpec.ofChange hybridShortWrong)

/-- 'hypostylelaw.HybridCut': WHATEVER THE INPUT: true; the input reads as it did. -/
def hybridCutSpec : ChangeSpec := { name := "hybridCut", fn := fun _ => fun
  | [d1, d2, d3, d4] => { results := [.lit (.bool true)], args := [d1, d2, d3, d4] }
  | _ => none }
def hybridCutRow : OpenClaim := { program := "ytdblegdbfdhepaa", sum := "cd8e024afa7f11cd4d15fe878031c49f02d74d8c9210b32c7c6eb9004a256917", func := "hypostyle/hypostylelaw.HybridCut", spec := "hybridCut", unfollowed := true, recurses := true, apart := false }
def HybridCutSaid : Prop := hybridCutRow.holds Try.pinned (OpenSpec.ofChange hybridCutSpec)

/-- ITS FALSE NEIGHBOUR: 'it returns false'. Refute it at one input. -/
def hybridCutWrong : ChangeSpec := { name := "hybridCut", fn := fun _ => fun
  | [d1, d2, d3, d4] => { results := [.lit (.bool false)], args := [d1, d2, d3, d4] }
  | _ => none }
def HybridCutWrongFalsely : Prop := hybridCutRow.holds Try.pinned (OpenSpec.ofChange hybridCutWrong)

/-- 'hypostylelaw.PatchTells': WHATEVER THE INPUT: true; the input reads as it did. -/
def patchTellsSpec : ChangeSpec := { name := "patchTells", fn := fun _ => fun
  | [d1, d2] => { results := [.lit (.bool true)], args := [d1, d2] }
  | _ => none }
def patchTellsRow : OpenClaim := { program := "ytdblegdbfdhepaa", sum := "cd8e024afa7f11cd4d15fe878031c49f02d74d8c9210b32c7c6eb9004a256917", func := "hypostyle/hypostylelaw.PatchTells", spec := "patchTells", inPlace := ["math/bits.Add64"], apart := false }
def PatchTellsSaid : Prop := patchTellsRow.holds Try.pinned (OpenSpec.ofChange patchTellsSpec)

/-- ITS FALSE NEIGHBOUR: 'it returns false'. Refute it at one input. -/
def patchTellsWrong : ChangeSpec := { name := "patchTells", fn := fun _ => fun
  | [d1, d2] => { results := [.lit (.bool false)], args := [d1, d2] }
  | _ => none }
def PatchTellsWrongFalsely : Prop := patchTellsRow.holds Try.pinned (OpenSpec.ofChange patchTellsWrong)

/-- 'hypostylelaw.PatchReads': WHATEVER THE INPUT: true; the input reads as it did. -/
def patchReadsSpec : ChangeSpec := { name := "patchReads", fn := fun _ => fun
  | [d1, d2] => { results := [.lit (.bool true)], args := [d1, d2] }
  | _ => none }
def patchReadsRow : OpenClaim := { program := "ytdblegdbfdhepaa", sum := "cd8e024afa7f11cd4d15fe878031c49f02d74d8c9210b32c7c6eb9004a256917", func := "hypostyle/hypostylelaw.PatchReads", spec := "patchReads", inPlace := ["math/bits.Add64"], apart := false }
def PatchReadsSaid : Prop := patchReadsRow.holds Try.pinned (OpenSpec.ofChange patchReadsSpec)

/-- ITS FALSE NEIGHBOUR: 'it returns false'. Refute it at one input. -/
def patchReadsWrong : ChangeSpec := { name := "patchReads", fn := fun _ => fun
  | [d1, d2] => { results := [.lit (.bool false)], args := [d1, d2] }
  | _ => none }
def PatchReadsWrongFalsely : Prop := patchReadsRow.holds Try.pinned (OpenSpec.ofChange patchReadsWrong)

/-- 'hypostylelaw.PatchBack': WHATEVER THE INPUT: true; the input reads as it did. -/
def patchBackSpec : ChangeSpec := { name := "patchBack", fn := fun _ => fun
  | [d] => { results := [.lit (.bool true)], args := [d] }
  | _ => none }
def patchBackRow : OpenClaim := { program := "ytdblegdbfdhepaa", sum := "cd8e024afa7f11cd4d15fe878031c49f02d74d8c9210b32c7c6eb9004a256917", func := "hypostyle/hypostylelaw.PatchBack", spec := "patchBack", inPlace := ["math/bits.Add64"], apart := false }
def PatchBackSaid : Prop := patchBackRow.holds Try.pinned (OpenSpec.ofChange patchBackSpec)

/-- ITS FALSE NEIGHBOUR: 'it returns false'. Refute it at one input. -/
def patchBackWrong : ChangeSpec := { name := "patchBack", fn := fun _ => fun
  | [d] => { results := [.lit (.bool false)], args := [d] }
  | _ => none }
def PatchBackWrongFalsely : Prop := patchBackRow.holds Try.pinned (OpenSpec.ofChange patchBackWrong)

/-- 'hypostylelaw.PatchLeast': WHATEVER THE INPUT: true; the input reads as it did. -/
def patchLeastSpec : ChangeSpec := { name := "patchLeast", fn := fun _ => fun
  | [d1, d2] => { results := [.lit (.bool true)], args := [d1, d2] }
  | _ => none }
def patchLeastRow : OpenClaim := { program := "ytdblegdbfdhepaa", sum := "cd8e024afa7f11cd4d15fe878031c49f02d74d8c9210b32c7c6eb9004a256917", func := "hypostyle/hypostylelaw.PatchLeast", spec := "patchLeast", inPlace := ["math/bits.Add64"], apart := false }
def PatchLeastSaid : Prop := patchLeastRow.holds Try.pinned (OpenSpec.ofChange patchLeastSpec)

/-- ITS FALSE NEIGHBOUR: 'it returns false'. Refute it at one input. -/
def patchLeastWrong : ChangeSpec := { name := "patchLeast", fn := fun _ => fun
  | [d1, d2] => { results := [.lit (.bool false)], args := [d1, d2] }
  | _ => none }
def PatchLeastWrongFalsely : Prop := patchLeastRow.holds Try.pinned (OpenSpec.ofChange patchLeastWrong)

/-- 'hypostylelaw.PatchShifts': WHATEVER THE INPUT: true; the input reads as it did. -/
def patchShiftsSpec : ChangeSpec := { name := "patchShifts", fn := fun _ => fun
  | [d1, d2, d3] => { results := [.lit (.bool true)], args := [d1, d2, d3] }
  | _ => none }
def patchShiftsRow : OpenClaim := { program := "ytdblegdbfdhepaa", sum := "cd8e024afa7f11cd4d15fe878031c49f02d74d8c9210b32c7c6eb9004a256917", func := "hypostyle/hypostylelaw.PatchShifts", spec := "patchShifts", inPlace := ["math/bits.Add64"], apart := false }
def PatchShiftsSaid : Prop := patchShiftsRow.holds Try.pinned (OpenSpec.ofChange patchShiftsSpec)

/-- ITS FALSE NEIGHBOUR: 'it returns false'. Refute it at one input. -/
def patchShiftsWrong : ChangeSpec := { name := "patchShifts", fn := fun _ => fun
  | [d1, d2, d3] => { results := [.lit (.bool false)], args := [d1, d2, d3] }
  | _ => none }
def PatchShiftsWrongFalsely : Prop := patchShiftsRow.holds Try.pinned (OpenSpec.ofChange patchShiftsWrong)

/-- 'hypostylelaw.DeltaTells': WHATEVER THE INPUT: true; the input reads as it did. -/
def deltaTellsSpec : ChangeSpec := { name := "deltaTells", fn := fun _ => fun
  | [d1, d2] => { results := [.lit (.bool true)], args := [d1, d2] }
  | _ => none }
def deltaTellsRow : OpenClaim := { program := "ytdblegdbfdhepaa", sum := "cd8e024afa7f11cd4d15fe878031c49f02d74d8c9210b32c7c6eb9004a256917", func := "hypostyle/hypostylelaw.DeltaTells", spec := "deltaTells", unfollowed := true, recurses := true, apart := false }
def DeltaTellsSaid : Prop := deltaTellsRow.holds Try.pinned (OpenSpec.ofChange deltaTellsSpec)

/-- ITS FALSE NEIGHBOUR: 'it returns false'. Refute it at one input. -/
def deltaTellsWrong : ChangeSpec := { name := "deltaTells", fn := fun _ => fun
  | [d1, d2] => { results := [.lit (.bool false)], args := [d1, d2] }
  | _ => none }
def DeltaTellsWrongFalsely : Prop := deltaTellsRow.holds Try.pinned (OpenSpec.ofChange deltaTellsWrong)

/-- 'hypostylelaw.DeltaBack': WHATEVER THE INPUT: true; the input reads as it did. -/
def deltaBackSpec : ChangeSpec := { name := "deltaBack", fn := fun _ => fun
  | [d1, d2] => { results := [.lit (.bool true)], args := [d1, d2] }
  | _ => none }
def deltaBackRow : OpenClaim := { program := "ytdblegdbfdhepaa", sum := "cd8e024afa7f11cd4d15fe878031c49f02d74d8c9210b32c7c6eb9004a256917", func := "hypostyle/hypostylelaw.DeltaBack", spec := "deltaBack", unfollowed := true, recurses := true, apart := false }
def DeltaBackSaid : Prop := deltaBackRow.holds Try.pinned (OpenSpec.ofChange deltaBackSpec)

/-- ITS FALSE NEIGHBOUR: 'it returns false'. Refute it at one input. -/
def deltaBackWrong : ChangeSpec := { name := "deltaBack", fn := fun _ => fun
  | [d1, d2] => { results := [.lit (.bool false)], args := [d1, d2] }
  | _ => none }
def DeltaBackWrongFalsely : Prop := deltaBackRow.holds Try.pinned (OpenSpec.ofChange deltaBackWrong)

/-- 'hypostylelaw.DeltaEven': WHATEVER THE INPUT: true; the input reads as it did. -/
def deltaEvenSpec : ChangeSpec := { name := "deltaEven", fn := fun _ => fun
  | [d1, d2, d3] => { results := [.lit (.bool true)], args := [d1, d2, d3] }
  | _ => none }
def deltaEvenRow : OpenClaim := { program := "ytdblegdbfdhepaa", sum := "cd8e024afa7f11cd4d15fe878031c49f02d74d8c9210b32c7c6eb9004a256917", func := "hypostyle/hypostylelaw.DeltaEven", spec := "deltaEven", unfollowed := true, recurses := true, apart := false }
def DeltaEvenSaid : Prop := deltaEvenRow.holds Try.pinned (OpenSpec.ofChange deltaEvenSpec)

/-- ITS FALSE NEIGHBOUR: 'it returns false'. Refute it at one input. -/
def deltaEvenWrong : ChangeSpec := { name := "deltaEven", fn := fun _ => fun
  | [d1, d2, d3] => { results := [.lit (.bool false)], args := [d1, d2, d3] }
  | _ => none }
def DeltaEvenWrongFalsely : Prop := deltaEvenRow.holds Try.pinned (OpenSpec.ofChange deltaEvenWrong)

/-- 'hypostylelaw.DeltaLinear': WHATEVER THE INPUT: true; the input reads as it did. -/
def deltaLinearSpec : ChangeSpec := { name := "deltaLinear", fn := fun _ => fun
  | [d1, d2] => { results := [.lit (.bool true)], args := [d1, d2] }
  | _ => none }
def deltaLinearRow : OpenClaim := { program := "ytdblegdbfdhepaa", sum := "cd8e024afa7f11cd4d15fe878031c49f02d74d8c9210b32c7c6eb9004a256917", func := "hypostyle/hypostylelaw.DeltaLinear", spec := "deltaLinear", unfollowed := true, recurses := true, apart := false }
def DeltaLinearSaid : Prop := deltaLinearRow.holds Try.pinned (OpenSpec.ofChange deltaLinearSpec)

/-- ITS FALSE NEIGHBOUR: 'it returns false'. Refute it at one input. -/
def deltaLinearWrong : ChangeSpec := { name := "deltaLinear", fn := fun _ => fun
  | [d1, d2] => { results := [.lit (.bool false)], args := [d1, d2] }
  | _ => none }
def DeltaLinearWrongFalsely : Prop := deltaLinearRow.holds Try.pinned (OpenSpec.ofChange deltaLinearWrong)

/-- 'hypostylelaw.DeltaWrites': WHATEVER THE INPUT: true; the input reads as it did. -/
def deltaWritesSpec : ChangeSpec := { name := "deltaWrites", fn := fun _ => fun
  | [d1, d2, d3] => { results := [.lit (.bool true)], args := [d1, d2, d3] }
  | _ => none }
def deltaWritesRow : OpenClaim := { program := "ytdblegdbfdhepaa", sum := "cd8e024afa7f11cd4d15fe878031c49f02d74d8c9210b32c7c6eb9004a256917", func := "hypostyle/hypostylelaw.DeltaWrites", spec := "deltaWrites", unfollowed := true, recurses := true, apart := false }
def DeltaWritesSaid : Prop := deltaWritesRow.holds Try.pinned (OpenSpec.ofChange deltaWritesSpec)

/-- ITS FALSE NEIGHBOUR: 'it returns false'. Refute it at one input. -/
def deltaWritesWrong : ChangeSpec := { name := "deltaWrites", fn := fun _ => fun
  | [d1, d2, d3] => { results := [.lit (.bool false)], args := [d1, d2, d3] }
  | _ => none }
def DeltaWritesWrongFalsely : Prop := deltaWritesRow.holds Try.pinned (OpenSpec.ofChange deltaWritesWrong)

/-- 'hypostylelaw.DeltaReads': WHATEVER THE INPUT: true; the input reads as it did. -/
def deltaReadsSpec : ChangeSpec := { name := "deltaReads", fn := fun _ => fun
  | [d] => { results := [.lit (.bool true)], args := [d] }
  | _ => none }
def deltaReadsRow : OpenClaim := { program := "ytdblegdbfdhepaa", sum := "cd8e024afa7f11cd4d15fe878031c49f02d74d8c9210b32c7c6eb9004a256917", func := "hypostyle/hypostylelaw.DeltaReads", spec := "deltaReads", unfollowed := true, recurses := true, apart := false }
def DeltaReadsSaid : Prop := deltaReadsRow.holds Try.pinned (OpenSpec.ofChange deltaReadsSpec)

/-- ITS FALSE NEIGHBOUR: 'it returns false'. Refute it at one input. -/
def deltaReadsWrong : ChangeSpec := { name := "deltaReads", fn := fun _ => fun
  | [d] => { results := [.lit (.bool false)], args := [d] }
  | _ => none }
def DeltaReadsWrongFalsely : Prop := deltaReadsRow.holds Try.pinned (OpenSpec.ofChange deltaReadsWrong)

/- THE SECOND FORM. 'bulk': how many values and letters a reading holds, each counted each time it is reached (what is shared counts as often as it is met; a slice's spare places count too). A statement '..UptoSaid' is the law's where the arguments, and the package variables that the reading takes, are together of bulk at most 1048576: NARROWER than '..Said'. Prove '..Said' where nothing that the law and all that it calls make is longer than what came in: it says more and counts as full. Else prove '..UptoSaid'. A law counts once. -/
mutual
def uptoBulk {H : Type} : DataW H → Nat
  | .lit (.string bytes) => bytes.length + 1
  | .lit _ => 1
  | .nil => 1
  | .ptr d => uptoBulk d + 1
  | .slice elems spare => uptoBulkAll elems + uptoBulkAll spare + 1
  | .agg parts => uptoBulkAll parts + 1
  | .iface _ d => uptoBulk d + 1
  | .map entries => uptoBulkEntries entries + 1
  | .held _ => 1
def uptoBulkAll {H : Type} : List (DataW H) → Nat
  | [] => 0
  | d :: r => uptoBulk d + uptoBulkAll r
def uptoBulkEntries {H : Type} : List (Lit × DataW H) → Nat
  | [] => 0
  | x :: r => uptoBulkEntry x + uptoBulkEntries r
def uptoBulkEntry {H : Type} : Lit × DataW H → Nat
  | (.string bytes, d) => bytes.length + uptoBulk d + 1
  | (_, d) => uptoBulk d + 1
 end
def uptoSmall : (H : Type) → List (DataW H) → Bool := fun _ ds => decide (uptoBulkAll ds ≤ 1048576)
def OpenSpec.upto (s : _root_.Go.ChangeSpec) : _root_.Go.OpenSpec := { _root_.Go.OpenSpec.ofChange s with cond := some uptoSmall }

/-- 'hypostylelaw.HybridTells', WHERE WHAT IT READS IS OF BULK AT MOST 1048576: true; the input reads as it did. -/
def hybridTellsUptoRow : OpenClaim := { program := "ytdblegdbfdhepaa", sum := "cd8e024afa7f11cd4d15fe878031c49f02d74d8c9210b32c7c6eb9004a256917", func := "hypostyle/hypostylelaw.HybridTells", spec := "hybridTells", unfollowed := true, recurses := true, apart := false, narrowed := true }
def HybridTellsUptoSaid : Prop := hybridTellsUptoRow.holds Try.pinned (OpenSpec.upto hybridTellsSpec)

/-- 'hypostylelaw.HybridReads', WHERE WHAT IT READS IS OF BULK AT MOST 1048576: true; the input reads as it did. -/
def hybridReadsUptoRow : OpenClaim := { program := "ytdblegdbfdhepaa", sum := "cd8e024afa7f11cd4d15fe878031c49f02d74d8c9210b32c7c6eb9004a256917", func := "hypostyle/hypostylelaw.HybridReads", spec := "hybridReads", unfollowed := true, recurses := true, apart := false, narrowed := true }
def HybridReadsUptoSaid : Prop := hybridReadsUptoRow.holds Try.pinned (OpenSpec.upto hybridReadsSpec)

/-- 'hypostylelaw.HybridBack', WHERE WHAT IT READS IS OF BULK AT MOST 1048576: true; the input reads as it did. -/
def hybridBackUptoRow : OpenClaim := { program := "ytdblegdbfdhepaa", sum := "cd8e024afa7f11cd4d15fe878031c49f02d74d8c9210b32c7c6eb9004a256917", func := "hypostyle/hypostylelaw.HybridBack", spec := "hybridBack", unfollowed := true, recurses := true, apart := false, narrowed := true }
def HybridBackUptoSaid : Prop := hybridBackUptoRow.holds Try.pinned (OpenSpec.upto hybridBackSpec)

/-- 'hypostylelaw.HybridJoins', WHERE WHAT IT READS IS OF BULK AT MOST 1048576: true; the input reads as it did. -/
def hybridJoinsUptoRow : OpenClaim := { program := "ytdblegdbfdhepaa", sum := "cd8e024afa7f11cd4d15fe878031c49f02d74d8c9210b32c7c6eb9004a256917", func := "hypostyle/hypostylelaw.HybridJoins", spec := "hybridJoins", unfollowed := true, recurses := true, apart := false, narrowed := true }
def HybridJoinsUptoSaid : Prop := hybridJoinsUptoRow.holds Try.pinned (OpenSpec.upto hybridJoinsSpec)

/-- 'hypostylelaw.HybridShort', WHERE WHAT IT READS IS OF BULK AT MOST 1048576: true; the input reads as it did. -/
def hybridShortUptoRow : OpenClaim := { program := "ytdblegdbfdhepaa", sum := "cd8e024afa7f11cd4d15fe878031c49f02d74d8c9210b32c7c6eb9004a256917", func := "hypostyle/hypostylelaw.HybridShort", spec := "hybridShort", unfollowed := true, recurses := true, apart := false, narrowed := true }
def HybridShortUptoSaid : Prop := hybridShortUptoRow.holds Try.pinned (OpenSpec.upto hybridShortSpec)

/-- 'hypostylelaw.HybridCut', WHERE WHAT IT READS IS OF BULK AT MOST 1048576: true; the input reads as it did. -/
def hybridCutUptoRow : OpenClaim := { program := "ytdblegdbfdhepaa", sum := "cd8e024afa7f11cd4d15fe878031c49f02d74d8c9210b32c7c6eb9004a256917", func := "hypostyle/hypostylelaw.HybridCut", spec := "hybridCut", unfollowed := true, recurses := true, apart := false, narrowed := true }
def HybridCutUptoSaid : Prop := hybridCutUptoRow.holds Try.pinned (OpenSpec.upto hybridCutSpec)

/-- 'hypostylelaw.PatchTells', WHERE WHAT IT READS IS OF BULK AT MOST 1048576: true; the input reads as it did. -/
def patchTellsUptoRow : OpenClaim := { program := "ytdblegdbfdhepaa", sum := "cd8e024afa7f11cd4d15fe878031c49f02d74d8c9210b32c7c6eb9004a256917", func := "hypostyle/hypostylelaw.PatchTells", spec := "patchTells", inPlace := ["math/bits.Add64"], apart := false, narrowed := true }
def PatchTellsUptoSaid : Prop := patchTellsUptoRow.holds Try.pinned (OpenSpec.upto patchTellsSpec)

/-- 'hypostylelaw.PatchReads', WHERE WHAT IT READS IS OF BULK AT MOST 1048576: true; the input reads as it did. -/
def patchReadsUptoRow : OpenClaim := { program := "ytdblegdbfdhepaa", sum := "cd8e024afa7f11cd4d15fe878031c49f02d74d8c9210b32c7c6eb9004a256917", func := "hypostyle/hypostylelaw.PatchReads", spec := "patchReads", inPlace := ["math/bits.Add64"], apart := false, narrowed := true }
def PatchReadsUptoSaid : Prop := patchReadsUptoRow.holds Try.pinned (OpenSpec.upto patchReadsSpec)

/-- 'hypostylelaw.PatchBack', WHERE WHAT IT READS IS OF BULK AT MOST 1048576: true; the input reads as it did. -/
def patchBackUptoRow : OpenClaim := { program := "ytdblegdbfdhepaa", sum := "cd8e024afa7f11cd4d15fe878031c49f02d74d8c9210b32c7c6eb9004a256917", func := "hypostyle/hypostylelaw.PatchBack", spec := "patchBack", inPlace := ["math/bits.Add64"], apart := false, narrowed := true }
def PatchBackUptoSaid : Prop := patchBackUptoRow.holds Try.pinned (OpenSpec.upto patchBackSpec)

/-- 'hypostylelaw.PatchLeast', WHERE WHAT IT READS IS OF BULK AT MOST 1048576: true; the input reads as it did. -/
def patchLeastUptoRow : OpenClaim := { program := "ytdblegdbfdhepaa", sum := "cd8e024afa7f11cd4d15fe878031c49f02d74d8c9210b32c7c6eb9004a256917", func := "hypostyle/hypostylelaw.PatchLeast", spec := "patchLeast", inPlace := ["math/bits.Add64"], apart := false, narrowed := true }
def PatchLeastUptoSaid : Prop := patchLeastUptoRow.holds Try.pinned (OpenSpec.upto patchLeastSpec)

/-- 'hypostylelaw.PatchShifts', WHERE WHAT IT READS IS OF BULK AT MOST 1048576: true; the input reads as it did. -/
def patchShiftsUptoRow : OpenClaim := { program := "ytdblegdbfdhepaa", sum := "cd8e024afa7f11cd4d15fe878031c49f02d74d8c9210b32c7c6eb9004a256917", func := "hypostyle/hypostylelaw.PatchShifts", spec := "patchShifts", inPlace := ["math/bits.Add64"], apart := false, narrowed := true }
def PatchShiftsUptoSaid : Prop := patchShiftsUptoRow.holds Try.pinned (OpenSpec.upto patchShiftsSpec)

/-- 'hypostylelaw.DeltaTells', WHERE WHAT IT READS IS OF BULK AT MOST 1048576: true; the input reads as it did. -/
def deltaTellsUptoRow : OpenClaim := { program := "ytdblegdbfdhepaa", sum := "cd8e024afa7f11cd4d15fe878031c49f02d74d8c9210b32c7c6eb9004a256917", func := "hypostyle/hypostylelaw.DeltaTells", spec := "deltaTells", unfollowed := true, recurses := true, apart := false, narrowed := true }
def DeltaTellsUptoSaid : Prop := deltaTellsUptoRow.holds Try.pinned (OpenSpec.upto deltaTellsSpec)

/-- 'hypostylelaw.DeltaBack', WHERE WHAT IT READS IS OF BULK AT MOST 1048576: true; the input reads as it did. -/
def deltaBackUptoRow : OpenClaim := { program := "ytdblegdbfdhepaa", sum := "cd8e024afa7f11cd4d15fe878031c49f02d74d8c9210b32c7c6eb9004a256917", func := "hypostyle/hypostylelaw.DeltaBack", spec := "deltaBack", unfollowed := true, recurses := true, apart := false, narrowed := true }
def DeltaBackUptoSaid : Prop := deltaBackUptoRow.holds Try.pinned (OpenSpec.upto deltaBackSpec)

/-- 'hypostylelaw.DeltaEven', WHERE WHAT IT READS IS OF BULK AT MOST 1048576: true; the input reads as it did. -/
def deltaEvenUptoRow : OpenClaim := { program := "ytdblegdbfdhepaa", sum := "cd8e024afa7f11cd4d15fe878031c49f02d74d8c9210b32c7c6eb9004a256917", func := "hypostyle/hypostylelaw.DeltaEven", spec := "deltaEven", unfollowed := true, recurses := true, apart := false, narrowed := true }
def DeltaEvenUptoSaid : Prop := deltaEvenUptoRow.holds Try.pinned (OpenSpec.upto deltaEvenSpec)

/-- 'hypostylelaw.DeltaLinear', WHERE WHAT IT READS IS OF BULK AT MOST 1048576: true; the input reads as it did. -/
def deltaLinearUptoRow : OpenClaim := { program := "ytdblegdbfdhepaa", sum := "cd8e024afa7f11cd4d15fe878031c49f02d74d8c9210b32c7c6eb9004a256917", func := "hypostyle/hypostylelaw.DeltaLinear", spec := "deltaLinear", unfollowed := true, recurses := true, apart := false, narrowed := true }
def DeltaLinearUptoSaid : Prop := deltaLinearUptoRow.holds Try.pinned (OpenSpec.upto deltaLinearSpec)

/-- 'hypostylelaw.DeltaWrites', WHERE WHAT IT READS IS OF BULK AT MOST 1048576: true; the input reads as it did. -/
def deltaWritesUptoRow : OpenClaim := { program := "ytdblegdbfdhepaa", sum := "cd8e024afa7f11cd4d15fe878031c49f02d74d8c9210b32c7c6eb9004a256917", func := "hypostyle/hypostylelaw.DeltaWrites", spec := "deltaWrites", unfollowed := true, recurses := true, apart := false, narrowed := true }
def DeltaWritesUptoSaid : Prop := deltaWritesUptoRow.holds Try.pinned (OpenSpec.upto deltaWritesSpec)

/-- 'hypostylelaw.DeltaReads', WHERE WHAT IT READS IS OF BULK AT MOST 1048576: true; the input reads as it did. -/
def deltaReadsUptoRow : OpenClaim := { program := "ytdblegdbfdhepaa", sum := "cd8e024afa7f11cd4d15fe878031c49f02d74d8c9210b32c7c6eb9004a256917", func := "hypostyle/hypostylelaw.DeltaReads", spec := "deltaReads", unfollowed := true, recurses := true, apart := false, narrowed := true }
def DeltaReadsUptoSaid : Prop := deltaReadsUptoRow.holds Try.pinned (OpenSpec.upto deltaReadsSpec)

end Rows
end Go.Proofs.Ytdblegdbfdhepaa
