/-
  No cell of these rows narrows 'for every input' (looked for: loops, veiled, ifaces, maps, wideKeys, modest, calm, conditions, laid).
  DERIVED. THE GIVEN ROWS OF THIS SEAT. 10 by the template 'for every input the law returns true; each argument reads behind the call as it read before'; 0 by the template 'total and deterministic' (their statements: YtikdmnedbfpkeaaTotals.lean).
  GIVEN WITH THE SEED: the statements are not yours to turn. If you find one false, say at which input.
  Laid BY PROGRAM, IN A SANDBOX (cutbox-rows.mjs): the forced cells as the released guide's own fill.sh prints them over the translation 1f5baf0b39033d6a… (all of the seat's roots in one cut). By AI agents, Wed Nov 11 2026. No macro, syntax, notation, axiom, sorry.
-/
import Derived.Test.YtikdmnedbfpkeaaChecked
import GoSem.Claim
import GoSem.ClaimJoined
import GoSem.ClaimMapViews
import Derived.JoinedTies
import Derived.KernelRfl
namespace Go.Proofs.Ytikdmnedbfpkeaa
/- THE CELL 'sum', in the pinned program and in every row, IS THE sha256 OF THE DUMP (.gsa) THAT YtikdmnedbfpkeaaProg.lean LOADS. Nothing in Lean hashes anything: it is a label: what it is worth is what the hold of that sum in a sandbox is worth. -/
noncomputable def Try.pinned : Pinned := { name := "ytikdmnedbfpkeaa", sum := "1f5baf0b39033d6a5943f384791ec8c559745ef5683175b323b525381426b92a", checked := Try.checked }
namespace Rows
def none {H : Type} : Left H := { results := [], args := [] }

/-- 'hypostylelaw.StatsTell': WHATEVER THE INPUT: true; the input reads as it did. -/
def statsTellSpec : ChangeSpec := { name := "statsTell", fn := fun _ => fun
  | [d1, d2, d3] => { results := [.lit (.bool true)], args := [d1, d2, d3] }
  | _ => none }
def statsTellRow : OpenClaim := { program := "ytikdmnedbfpkeaa", sum := "1f5baf0b39033d6a5943f384791ec8c559745ef5683175b323b525381426b92a", func := "hypostyle/hypostylelaw.StatsTell", spec := "statsTell", inPlace := ["internal/bytealg.abigen_runtime_cmpstring"], apart := false }
def StatsTellSaid : Prop := statsTellRow.holds Try.pinned (OpenSpec.ofChange statsTellSpec)

/-- ITS FALSE NEIGHBOUR: 'it returns false'. Refute it at one input. -/
def statsTellWrong : ChangeSpec := { name := "statsTell", fn := fun _ => fun
  | [d1, d2, d3] => { results := [.lit (.bool false)], args := [d1, d2, d3] }
  | _ => none }
def StatsTellWrongFalsely : Prop := statsTellRow.holds Try.pinned (OpenSpec.ofChange statsTellWrong)

/-- 'hypostylelaw.StatsMerge': WHATEVER THE INPUT: true; the input reads as it did. -/
def statsMergeSpec : ChangeSpec := { name := "statsMerge", fn := fun _ => fun
  | [d1, d2, d3] => { results := [.lit (.bool true)], args := [d1, d2, d3] }
  | _ => none }
def statsMergeRow : OpenClaim := { program := "ytikdmnedbfpkeaa", sum := "1f5baf0b39033d6a5943f384791ec8c559745ef5683175b323b525381426b92a", func := "hypostyle/hypostylelaw.StatsMerge", spec := "statsMerge", inPlace := ["internal/bytealg.abigen_runtime_cmpstring"], apart := false }
def StatsMergeSaid : Prop := statsMergeRow.holds Try.pinned (OpenSpec.ofChange statsMergeSpec)

/-- ITS FALSE NEIGHBOUR: 'it returns false'. Refute it at one input. -/
def statsMergeWrong : ChangeSpec := { name := "statsMerge", fn := fun _ => fun
  | [d1, d2, d3] => { results := [.lit (.bool false)], args := [d1, d2, d3] }
  | _ => none }
def StatsMergeWrongFalsely : Prop := statsMergeRow.holds Try.pinned (OpenSpec.ofChange statsMergeWrong)

/-- 'hypostylelaw.StatsWhole': WHATEVER THE INPUT: true; the input reads as it did. -/
def statsWholeSpec : ChangeSpec := { name := "statsWhole", fn := fun _ => fun
  | [d1, d2, d3] => { results := [.lit (.bool true)], args := [d1, d2, d3] }
  | _ => none }
def statsWholeRow : OpenClaim := { program := "ytikdmnedbfpkeaa", sum := "1f5baf0b39033d6a5943f384791ec8c559745ef5683175b323b525381426b92a", func := "hypostyle/hypostylelaw.StatsWhole", spec := "statsWhole", inPlace := ["internal/bytealg.abigen_runtime_cmpstring"], apart := false }
def StatsWholeSaid : Prop := statsWholeRow.holds Try.pinned (OpenSpec.ofChange statsWholeSpec)

/-- ITS FALSE NEIGHBOUR: 'it returns false'. Refute it at one input. -/
def statsWholeWrong : ChangeSpec := { name := "statsWhole", fn := fun _ => fun
  | [d1, d2, d3] => { results := [.lit (.bool false)], args := [d1, d2, d3] }
  | _ => none }
def StatsWholeWrongFalsely : Prop := statsWholeRow.holds Try.pinned (OpenSpec.ofChange statsWholeWrong)

/-- 'hypostylelaw.StatsMonoid': WHATEVER THE INPUT: true; the input reads as it did. -/
def statsMonoidSpec : ChangeSpec := { name := "statsMonoid", fn := fun _ => fun
  | [d1, d2, d3, d4] => { results := [.lit (.bool true)], args := [d1, d2, d3, d4] }
  | _ => none }
def statsMonoidRow : OpenClaim := { program := "ytikdmnedbfpkeaa", sum := "1f5baf0b39033d6a5943f384791ec8c559745ef5683175b323b525381426b92a", func := "hypostyle/hypostylelaw.StatsMonoid", spec := "statsMonoid", inPlace := ["internal/bytealg.abigen_runtime_cmpstring"], apart := false }
def StatsMonoidSaid : Prop := statsMonoidRow.holds Try.pinned (OpenSpec.ofChange statsMonoidSpec)

/-- ITS FALSE NEIGHBOUR: 'it returns false'. Refute it at one input. -/
def statsMonoidWrong : ChangeSpec := { name := "statsMonoid", fn := fun _ => fun
  | [d1, d2, d3, d4] => { results := [.lit (.bool false)], args := [d1, d2, d3, d4] }
  | _ => none }
def StatsMonoidWrongFalsely : Prop := statsMonoidRow.holds Try.pinned (OpenSpec.ofChange statsMonoidWrong)

/-- 'hypostylelaw.StatsBound': WHATEVER THE INPUT: true; the input reads as it did. -/
def statsBoundSpec : ChangeSpec := { name := "statsBound", fn := fun _ => fun
  | [d1, d2] => { results := [.lit (.bool true)], args := [d1, d2] }
  | _ => none }
def statsBoundRow : OpenClaim := { program := "ytikdmnedbfpkeaa", sum := "1f5baf0b39033d6a5943f384791ec8c559745ef5683175b323b525381426b92a", func := "hypostyle/hypostylelaw.StatsBound", spec := "statsBound", inPlace := ["internal/bytealg.abigen_runtime_cmpstring"], apart := false }
def StatsBoundSaid : Prop := statsBoundRow.holds Try.pinned (OpenSpec.ofChange statsBoundSpec)

/-- ITS FALSE NEIGHBOUR: 'it returns false'. Refute it at one input. -/
def statsBoundWrong : ChangeSpec := { name := "statsBound", fn := fun _ => fun
  | [d1, d2] => { results := [.lit (.bool false)], args := [d1, d2] }
  | _ => none }
def StatsBoundWrongFalsely : Prop := statsBoundRow.holds Try.pinned (OpenSpec.ofChange statsBoundWrong)

/-- 'hypostylelaw.NullsTell': WHATEVER THE INPUT: true; the input reads as it did. -/
def nullsTellSpec : ChangeSpec := { name := "nullsTell", fn := fun _ => fun
  | [d1, d2] => { results := [.lit (.bool true)], args := [d1, d2] }
  | _ => none }
def nullsTellRow : OpenClaim := { program := "ytikdmnedbfpkeaa", sum := "1f5baf0b39033d6a5943f384791ec8c559745ef5683175b323b525381426b92a", func := "hypostyle/hypostylelaw.NullsTell", spec := "nullsTell", inPlace := ["internal/bytealg.abigen_runtime_cmpstring"], unfollowed := true, recurses := true, apart := false }
def NullsTellSaid : Prop := nullsTellRow.holds Try.pinned (OpenSpec.ofChange nullsTellSpec)

/-- ITS FALSE NEIGHBOUR: 'it returns false'. Refute it at one input. -/
def nullsTellWrong : ChangeSpec := { name := "nullsTell", fn := fun _ => fun
  | [d1, d2] => { results := [.lit (.bool false)], args := [d1, d2] }
  | _ => none }
def NullsTellWrongFalsely : Prop := nullsTellRow.holds Try.pinned (OpenSpec.ofChange nullsTellWrong)

/-- 'hypostylelaw.NullsJoin': WHATEVER THE INPUT: true; the input reads as it did. -/
def nullsJoinSpec : ChangeSpec := { name := "nullsJoin", fn := fun _ => fun
  | [d1, d2, d3, d4] => { results := [.lit (.bool true)], args := [d1, d2, d3, d4] }
  | _ => none }
def nullsJoinRow : OpenClaim := { program := "ytikdmnedbfpkeaa", sum := "1f5baf0b39033d6a5943f384791ec8c559745ef5683175b323b525381426b92a", func := "hypostyle/hypostylelaw.NullsJoin", spec := "nullsJoin", inPlace := ["internal/bytealg.abigen_runtime_cmpstring"], unfollowed := true, recurses := true, apart := false }
def NullsJoinSaid : Prop := nullsJoinRow.holds Try.pinned (OpenSpec.ofChange nullsJoinSpec)

/-- ITS FALSE NEIGHBOUR: 'it returns false'. Refute it at one input. -/
def nullsJoinWrong : ChangeSpec := { name := "nullsJoin", fn := fun _ => fun
  | [d1, d2, d3, d4] => { results := [.lit (.bool false)], args := [d1, d2, d3, d4] }
  | _ => none }
def NullsJoinWrongFalsely : Prop := nullsJoinRow.holds Try.pinned (OpenSpec.ofChange nullsJoinWrong)

/-- 'hypostylelaw.NullsBack': WHATEVER THE INPUT: true; the input reads as it did. -/
def nullsBackSpec : ChangeSpec := { name := "nullsBack", fn := fun _ => fun
  | [d1, d2, d3] => { results := [.lit (.bool true)], args := [d1, d2, d3] }
  | _ => none }
def nullsBackRow : OpenClaim := { program := "ytikdmnedbfpkeaa", sum := "1f5baf0b39033d6a5943f384791ec8c559745ef5683175b323b525381426b92a", func := "hypostyle/hypostylelaw.NullsBack", spec := "nullsBack", inPlace := ["internal/bytealg.abigen_runtime_cmpstring"], unfollowed := true, recurses := true, apart := false }
def NullsBackSaid : Prop := nullsBackRow.holds Try.pinned (OpenSpec.ofChange nullsBackSpec)

/-- ITS FALSE NEIGHBOUR: 'it returns false'. Refute it at one input. -/
def nullsBackWrong : ChangeSpec := { name := "nullsBack", fn := fun _ => fun
  | [d1, d2, d3] => { results := [.lit (.bool false)], args := [d1, d2, d3] }
  | _ => none }
def NullsBackWrongFalsely : Prop := nullsBackRow.holds Try.pinned (OpenSpec.ofChange nullsBackWrong)

/-- 'hypostylelaw.NullsOrder': WHATEVER THE INPUT: true; the input reads as it did. -/
def nullsOrderSpec : ChangeSpec := { name := "nullsOrder", fn := fun _ => fun
  | [d1, d2, d3] => { results := [.lit (.bool true)], args := [d1, d2, d3] }
  | _ => none }
def nullsOrderRow : OpenClaim := { program := "ytikdmnedbfpkeaa", sum := "1f5baf0b39033d6a5943f384791ec8c559745ef5683175b323b525381426b92a", func := "hypostyle/hypostylelaw.NullsOrder", spec := "nullsOrder", inPlace := ["internal/bytealg.abigen_runtime_cmpstring"], unfollowed := true, recurses := true, apart := false }
def NullsOrderSaid : Prop := nullsOrderRow.holds Try.pinned (OpenSpec.ofChange nullsOrderSpec)

/-- ITS FALSE NEIGHBOUR: 'it returns false'. Refute it at one input. -/
def nullsOrderWrong : ChangeSpec := { name := "nullsOrder", fn := fun _ => fun
  | [d1, d2, d3] => { results := [.lit (.bool false)], args := [d1, d2, d3] }
  | _ => none }
def NullsOrderWrongFalsely : Prop := nullsOrderRow.holds Try.pinned (OpenSpec.ofChange nullsOrderWrong)

/-- 'hypostylelaw.RestCells': WHATEVER THE INPUT: true; the input reads as it did. -/
def restCellsSpec : ChangeSpec := { name := "restCells", fn := fun _ => fun
  | [d1, d2] => { results := [.lit (.bool true)], args := [d1, d2] }
  | _ => none }
def restCellsRow : OpenClaim := { program := "ytikdmnedbfpkeaa", sum := "1f5baf0b39033d6a5943f384791ec8c559745ef5683175b323b525381426b92a", func := "hypostyle/hypostylelaw.RestCells", spec := "restCells", inPlace := ["internal/bytealg.abigen_runtime_cmpstring"], unfollowed := true, recurses := true, apart := false }
def RestCellsSaid : Prop := restCellsRow.holds Try.pinned (OpenSpec.ofChange restCellsSpec)

/-- ITS FALSE NEIGHBOUR: 'it returns false'. Refute it at one input. -/
def restCellsWrong : ChangeSpec := { name := "restCells", fn := fun _ => fun
  | [d1, d2] => { results := [.lit (.bool false)], args := [d1, d2] }
  | _ => none }
def RestCellsWrongFalsely : Prop := restCellsRow.holds Try.pinned (OpenSpec.ofChange restCellsWrong)

/- THE SECOND FORM. 'bulk': how many values and letters a reading holds, each counted each time it is reached (what is shared counts as often as it is met; a slice's spare places count too). A statement '..UptoSaid' is the law's where the arguments, and the package variables that the reading takes, are together of bulk at most 1048576: NARROWER than '..Said'. Prove '..Said' where nothing that the law and all that it calls make is longer than what came in: it says more and counts as full. Else prove '..UptoSaid'. A law counts once. -/
mutual
def uptoBulk {H : Type} : DataW H → Nat
  | .lit (.string bytes) => bytes.length + 1
  | .lit _ => 1
  | .nil => 1
  | .ptr d => uptoBulk d + 1
  | .slice elems spare => uptoBulkAll elems + uptoBulkAll spare + 1
  | .agg parts => uptoBulkAll parts + 1
  | .iface _ d => uptoBulk d + 1
  | .map entries => uptoBulkEntries entries + 1
  | .held _ => 1
def uptoBulkAll {H : Type} : List (DataW H) → Nat
  | [] => 0
  | d :: r => uptoBulk d + uptoBulkAll r
def uptoBulkEntries {H : Type} : List (Lit × DataW H) → Nat
  | [] => 0
  | x :: r => uptoBulkEntry x + uptoBulkEntries r
def uptoBulkEntry {H : Type} : Lit × DataW H → Nat
  | (.string bytes, d) => bytes.length + uptoBulk d + 1
  | (_, d) => uptoBulk d + 1
 end
def uptoSmall : (H : Type) → List (DataW H) → Bool := fun _ ds => decide (uptoBulkAll ds ≤ 1048576)
def OpenSpec.upto (s : _root_.Go.ChangeSpec) : _root_.Go.OpenSpec := { _root_.Go.OpenSpec.ofChange s with cond := some uptoSmall }

/-- 'hypostylelaw.StatsTell', WHERE WHAT IT READS IS OF BULK AT MOST 1048576: true; the input reads as it did. -/
def statsTellUptoRow : OpenClaim := { program := "ytikdmnedbfpkeaa", sum := "1f5baf0b39033d6a5943f384791ec8c559745ef5683175b323b525381426b92a", func := "hypostyle/hypostylelaw.StatsTell", spec := "statsTell", inPlace := ["internal/bytealg.abigen_runtime_cmpstring"], apart := false, narrowed := true }
def StatsTellUptoSaid : Prop := statsTellUptoRow.holds Try.pinned (OpenSpec.upto statsTellSpec)

/-- 'hypostylelaw.StatsMerge', WHERE WHAT IT READS IS OF BULK AT MOST 1048576: true; the input reads as it did. -/
def statsMergeUptoRow : OpenClaim := { program := "ytikdmnedbfpkeaa", sum := "1f5baf0b39033d6a5943f384791ec8c559745ef5683175b323b525381426b92a", func := "hypostyle/hypostylelaw.StatsMerge", spec := "statsMerge", inPlace := ["internal/bytealg.abigen_runtime_cmpstring"], apart := false, narrowed := true }
def StatsMergeUptoSaid : Prop := statsMergeUptoRow.holds Try.pinned (OpenSpec.upto statsMergeSpec)

/-- 'hypostylelaw.StatsWhole', WHERE WHAT IT READS IS OF BULK AT MOST 1048576: true; the input reads as it did. -/
def statsWholeUptoRow : OpenClaim := { program := "ytikdmnedbfpkeaa", sum := "1f5baf0b39033d6a5943f384791ec8c559745ef5683175b323b525381426b92a", func := "hypostyle/hypostylelaw.StatsWhole", spec := "statsWhole", inPlace := ["internal/bytealg.abigen_runtime_cmpstring"], apart := false, narrowed := true }
def StatsWholeUptoSaid : Prop := statsWholeUptoRow.holds Try.pinned (OpenSpec.upto statsWholeSpec)

/-- 'hypostylelaw.StatsMonoid', WHERE WHAT IT READS IS OF BULK AT MOST 1048576: true; the input reads as it did. -/
def statsMonoidUptoRow : OpenClaim := { program := "ytikdmnedbfpkeaa", sum := "1f5baf0b39033d6a5943f384791ec8c559745ef5683175b323b525381426b92a", func := "hypostyle/hypostylelaw.StatsMonoid", spec := "statsMonoid", inPlace := ["internal/bytealg.abigen_runtime_cmpstring"], apart := false, narrowed := true }
def StatsMonoidUptoSaid : Prop := statsMonoidUptoRow.holds Try.pinned (OpenSpec.upto statsMonoidSpec)

/-- 'hypostylelaw.StatsBound', WHERE WHAT IT READS IS OF BULK AT MOST 1048576: true; the input reads as it did. -/
def statsBoundUptoRow : OpenClaim := { program := "ytikdmnedbfpkeaa", sum := "1f5baf0b39033d6a5943f384791ec8c559745ef5683175b323b525381426b92a", func := "hypostyle/hypostylelaw.StatsBound", spec := "statsBound", inPlace := ["internal/bytealg.abigen_runtime_cmpstring"], apart := false, narrowed := true }
def StatsBoundUptoSaid : Prop := statsBoundUptoRow.holds Try.pinned (OpenSpec.upto statsBoundSpec)

/-- 'hypostylelaw.NullsTell', WHERE WHAT IT READS IS OF BULK AT MOST 1048576: true; the input reads as it did. -/
def nullsTellUptoRow : OpenClaim := { program := "ytikdmnedbfpkeaa", sum := "1f5baf0b39033d6a5943f384791ec8c559745ef5683175b323b525381426b92a", func := "hypostyle/hypostylelaw.NullsTell", spec := "nullsTell", inPlace := ["internal/bytealg.abigen_runtime_cmpstring"], unfollowed := true, recurses := true, apart := false, narrowed := true }
def NullsTellUptoSaid : Prop := nullsTellUptoRow.holds Try.pinned (OpenSpec.upto nullsTellSpec)

/-- 'hypostylelaw.NullsJoin', WHERE WHAT IT READS IS OF BULK AT MOST 1048576: true; the input reads as it did. -/
def nullsJoinUptoRow : OpenClaim := { program := "ytikdmnedbfpkeaa", sum := "1f5baf0b39033d6a5943f384791ec8c559745ef5683175b323b525381426b92a", func := "hypostyle/hypostylelaw.NullsJoin", spec := "nullsJoin", inPlace := ["internal/bytealg.abigen_runtime_cmpstring"], unfollowed := true, recurses := true, apart := false, narrowed := true }
def NullsJoinUptoSaid : Prop := nullsJoinUptoRow.holds Try.pinned (OpenSpec.upto nullsJoinSpec)

/-- 'hypostylelaw.NullsBack', WHERE WHAT IT READS IS OF BULK AT MOST 1048576: true; the input reads as it did. -/
def nullsBackUptoRow : OpenClaim := { program := "ytikdmnedbfpkeaa", sum := "1f5baf0b39033d6a5943f384791ec8c559745ef5683175b323b525381426b92a", func := "hypostyle/hypostylelaw.NullsBack", spec := "nullsBack", inPlace := ["internal/bytealg.abigen_runtime_cmpstring"], unfollowed := true, recurses := true, apart := false, narrowed := true }
def NullsBackUptoSaid : Prop := nullsBackUptoRow.holds Try.pinned (OpenSpec.upto nullsBackSpec)

/-- 'hypostylelaw.NullsOrder', WHERE WHAT IT READS IS OF BULK AT MOST 1048576: true; the input reads as it did. -/
def nullsOrderUptoRow : OpenClaim := { program := "ytikdmnedbfpkeaa", sum := "1f5baf0b39033d6a5943f384791ec8c559745ef5683175b323b525381426b92a", func := "hypostyle/hypostylelaw.NullsOrder", spec := "nullsOrder", inPlace := ["internal/bytealg.abigen_runtime_cmpstring"], unfollowed := true, recurses := true, apart := false, narrowed := true }
def NullsOrderUptoSaid : Prop := nullsOrderUptoRow.holds Try.pinned (OpenSpec.upto nullsOrderSpec)

/-- 'hypostylelaw.RestCells', WHERE WHAT IT READS IS OF BULK AT MOST 1048576: true; the input reads as it did. -/
def restCellsUptoRow : OpenClaim := { program := "ytikdmnedbfpkeaa", sum := "1f5baf0b39033d6a5943f384791ec8c559745ef5683175b323b525381426b92a", func := "hypostyle/hypostylelaw.RestCells", spec := "restCells", inPlace := ["internal/bytealg.abigen_runtime_cmpstring"], unfollowed := true, recurses := true, apart := false, narrowed := true }
def RestCellsUptoSaid : Prop := restCellsUptoRow.holds Try.pinned (OpenSpec.upto restCellsSpec)

end Rows
end Go.Proofs.Ytikdmnedbfpkeaa
