/-
  No cell of these rows narrows 'for every input' (looked for: loops, veiled, ifaces, maps, wideKeys, modest, calm, conditions, laid).
  DERIVED. THE GIVEN ROWS OF THIS SEAT. 11 by the template 'for every input the law returns true; each argument reads behind the call as it read before'; 0 by the template 'total and deterministic' (their statements: YtpheegfanljeeaaTotals.lean).
  GIVEN WITH THE SEED: the statements are not yours to turn. If you find one false, say at which input.
  Laid BY PROGRAM, IN A SANDBOX (cutbox-rows.mjs): the forced cells as the released guide's own fill.sh prints them over the translation db698162948429b3… (all of the seat's roots in one cut). By AI agents, Wed Nov 11 2026. No macro, syntax, notation, axiom, sorry.
-/
import Derived.Test.YtpheegfanljeeaaChecked
import GoSem.Claim
import GoSem.ClaimJoined
import GoSem.ClaimMapViews
import Derived.JoinedTies
import Derived.KernelRfl
namespace Go.Proofs.Ytpheegfanljeeaa
/- THE CELL 'sum', in the pinned program and in every row, IS THE sha256 OF THE DUMP (.gsa) THAT YtpheegfanljeeaaProg.lean LOADS. Nothing in Lean hashes anything: it is a label: what it is worth is what the hold of that sum in a sandbox is worth. -/
noncomputable def Try.pinned : Pinned := { name := "ytpheegfanljeeaa", sum := "db698162948429b309ca84756e442c70d583b3aed5cd7a2100eb0649663f9591", checked := Try.checked }
namespace Rows
def none {H : Type} : Left H := { results := [], args := [] }

/-- 'hypostylelaw.PredTells': WHATEVER THE INPUT: true; the input reads as it did. -/
def predTellsSpec : ChangeSpec := { name := "predTells", fn := fun _ => fun
  | [d1, d2, d3] => { results := [.lit (.bool true)], args := [d1, d2, d3] }
  | _ => none }
def predTellsRow : OpenClaim := { program := "ytpheegfanljeeaa", sum := "db698162948429b309ca84756e442c70d583b3aed5cd7a2100eb0649663f9591", func := "hypostyle/hypostylelaw.PredTells", spec := "predTells", inPlace := ["internal/bytealg.abigen_runtime_cmpstring"], unfollowed := true, recurses := true, apart := false }
def PredTellsSaid : Prop := predTellsRow.holds Try.pinned (OpenSpec.ofChange predTellsSpec)

/-- ITS FALSE NEIGHBOUR: 'it returns false'. Refute it at one input. -/
def predTellsWrong : ChangeSpec := { name := "predTells", fn := fun _ => fun
  | [d1, d2, d3] => { results := [.lit (.bool false)], args := [d1, d2, d3] }
  | _ => none }
def PredTellsWrongFalsely : Prop := predTellsRow.holds Try.pinned (OpenSpec.ofChange predTellsWrong)

/-- 'hypostylelaw.PruneTells': WHATEVER THE INPUT: true; the input reads as it did. -/
def pruneTellsSpec : ChangeSpec := { name := "pruneTells", fn := fun _ => fun
  | [d1, d2, d3, d4] => { results := [.lit (.bool true)], args := [d1, d2, d3, d4] }
  | _ => none }
def pruneTellsRow : OpenClaim := { program := "ytpheegfanljeeaa", sum := "db698162948429b309ca84756e442c70d583b3aed5cd7a2100eb0649663f9591", func := "hypostyle/hypostylelaw.PruneTells", spec := "pruneTells", inPlace := ["internal/bytealg.abigen_runtime_cmpstring"], unfollowed := true, recurses := true, apart := false }
def PruneTellsSaid : Prop := pruneTellsRow.holds Try.pinned (OpenSpec.ofChange pruneTellsSpec)

/-- ITS FALSE NEIGHBOUR: 'it returns false'. Refute it at one input. -/
def pruneTellsWrong : ChangeSpec := { name := "pruneTells", fn := fun _ => fun
  | [d1, d2, d3, d4] => { results := [.lit (.bool false)], args := [d1, d2, d3, d4] }
  | _ => none }
def PruneTellsWrongFalsely : Prop := pruneTellsRow.holds Try.pinned (OpenSpec.ofChange pruneTellsWrong)

/-- 'hypostylelaw.PredKleene': WHATEVER THE INPUT: true; the input reads as it did. -/
def predKleeneSpec : ChangeSpec := { name := "predKleene", fn := fun _ => fun
  | [d1, d2, d3, d4, d5, d6] => { results := [.lit (.bool true)], args := [d1, d2, d3, d4, d5, d6] }
  | _ => none }
def predKleeneRow : OpenClaim := { program := "ytpheegfanljeeaa", sum := "db698162948429b309ca84756e442c70d583b3aed5cd7a2100eb0649663f9591", func := "hypostyle/hypostylelaw.PredKleene", spec := "predKleene", inPlace := ["internal/bytealg.abigen_runtime_cmpstring"], unfollowed := true, recurses := true, apart := false }
def PredKleeneSaid : Prop := predKleeneRow.holds Try.pinned (OpenSpec.ofChange predKleeneSpec)

/-- ITS FALSE NEIGHBOUR: 'it returns false'. Refute it at one input. -/
def predKleeneWrong : ChangeSpec := { name := "predKleene", fn := fun _ => fun
  | [d1, d2, d3, d4, d5, d6] => { results := [.lit (.bool false)], args := [d1, d2, d3, d4, d5, d6] }
  | _ => none }
def PredKleeneWrongFalsely : Prop := predKleeneRow.holds Try.pinned (OpenSpec.ofChange predKleeneWrong)

/-- 'hypostylelaw.PruneSound': WHATEVER THE INPUT: true; the input reads as it did. -/
def pruneSoundSpec : ChangeSpec := { name := "pruneSound", fn := fun _ => fun
  | [d1, d2, d3] => { results := [.lit (.bool true)], args := [d1, d2, d3] }
  | _ => none }
def pruneSoundRow : OpenClaim := { program := "ytpheegfanljeeaa", sum := "db698162948429b309ca84756e442c70d583b3aed5cd7a2100eb0649663f9591", func := "hypostyle/hypostylelaw.PruneSound", spec := "pruneSound", inPlace := ["internal/bytealg.abigen_runtime_cmpstring"], unfollowed := true, recurses := true, apart := false }
def PruneSoundSaid : Prop := pruneSoundRow.holds Try.pinned (OpenSpec.ofChange pruneSoundSpec)

/-- ITS FALSE NEIGHBOUR: 'it returns false'. Refute it at one input. -/
def pruneSoundWrong : ChangeSpec := { name := "pruneSound", fn := fun _ => fun
  | [d1, d2, d3] => { results := [.lit (.bool false)], args := [d1, d2, d3] }
  | _ => none }
def PruneSoundWrongFalsely : Prop := pruneSoundRow.holds Try.pinned (OpenSpec.ofChange pruneSoundWrong)

/-- 'hypostylelaw.PruneMore': WHATEVER THE INPUT: true; the input reads as it did. -/
def pruneMoreSpec : ChangeSpec := { name := "pruneMore", fn := fun _ => fun
  | [d1, d2, d3, d4] => { results := [.lit (.bool true)], args := [d1, d2, d3, d4] }
  | _ => none }
def pruneMoreRow : OpenClaim := { program := "ytpheegfanljeeaa", sum := "db698162948429b309ca84756e442c70d583b3aed5cd7a2100eb0649663f9591", func := "hypostyle/hypostylelaw.PruneMore", spec := "pruneMore", inPlace := ["internal/bytealg.abigen_runtime_cmpstring"], unfollowed := true, recurses := true, apart := false }
def PruneMoreSaid : Prop := pruneMoreRow.holds Try.pinned (OpenSpec.ofChange pruneMoreSpec)

/-- ITS FALSE NEIGHBOUR: 'it returns false'. Refute it at one input. -/
def pruneMoreWrong : ChangeSpec := { name := "pruneMore", fn := fun _ => fun
  | [d1, d2, d3, d4] => { results := [.lit (.bool false)], args := [d1, d2, d3, d4] }
  | _ => none }
def PruneMoreWrongFalsely : Prop := pruneMoreRow.holds Try.pinned (OpenSpec.ofChange pruneMoreWrong)

/-- 'hypostylelaw.DictTells': WHATEVER THE INPUT: true; the input reads as it did. -/
def dictTellsSpec : ChangeSpec := { name := "dictTells", fn := fun _ => fun
  | [d1, d2] => { results := [.lit (.bool true)], args := [d1, d2] }
  | _ => none }
def dictTellsRow : OpenClaim := { program := "ytpheegfanljeeaa", sum := "db698162948429b309ca84756e442c70d583b3aed5cd7a2100eb0649663f9591", func := "hypostyle/hypostylelaw.DictTells", spec := "dictTells", unfollowed := true, recurses := true, apart := false }
def DictTellsSaid : Prop := dictTellsRow.holds Try.pinned (OpenSpec.ofChange dictTellsSpec)

/-- ITS FALSE NEIGHBOUR: 'it returns false'. Refute it at one input. -/
def dictTellsWrong : ChangeSpec := { name := "dictTells", fn := fun _ => fun
  | [d1, d2] => { results := [.lit (.bool false)], args := [d1, d2] }
  | _ => none }
def DictTellsWrongFalsely : Prop := dictTellsRow.holds Try.pinned (OpenSpec.ofChange dictTellsWrong)

/-- 'hypostylelaw.DictReads': WHATEVER THE INPUT: true; the input reads as it did. -/
def dictReadsSpec : ChangeSpec := { name := "dictReads", fn := fun _ => fun
  | [d1, d2, d3, d4, d5] => { results := [.lit (.bool true)], args := [d1, d2, d3, d4, d5] }
  | _ => none }
def dictReadsRow : OpenClaim := { program := "ytpheegfanljeeaa", sum := "db698162948429b309ca84756e442c70d583b3aed5cd7a2100eb0649663f9591", func := "hypostyle/hypostylelaw.DictReads", spec := "dictReads", unfollowed := true, recurses := true, apart := false }
def DictReadsSaid : Prop := dictReadsRow.holds Try.pinned (OpenSpec.ofChange dictReadsSpec)

/-- ITS FALSE NEIGHBOUR: 'it returns false'. Refute it at one input. -/
def dictReadsWrong : ChangeSpec := { name := "dictReads", fn := fun _ => fun
  | [d1, d2, d3, d4, d5] => { results := [.lit (.bool false)], args := [d1, d2, d3, d4, d5] }
  | _ => none }
def DictReadsWrongFalsely : Prop := dictReadsRow.holds Try.pinned (OpenSpec.ofChange dictReadsWrong)

/-- 'hypostylelaw.DictBack': WHATEVER THE INPUT: true; the input reads as it did. -/
def dictBackSpec : ChangeSpec := { name := "dictBack", fn := fun _ => fun
  | [d] => { results := [.lit (.bool true)], args := [d] }
  | _ => none }
def dictBackRow : OpenClaim := { program := "ytpheegfanljeeaa", sum := "db698162948429b309ca84756e442c70d583b3aed5cd7a2100eb0649663f9591", func := "hypostyle/hypostylelaw.DictBack", spec := "dictBack", unfollowed := true, recurses := true, apart := false }
def DictBackSaid : Prop := dictBackRow.holds Try.pinned (OpenSpec.ofChange dictBackSpec)

/-- ITS FALSE NEIGHBOUR: 'it returns false'. Refute it at one input. -/
def dictBackWrong : ChangeSpec := { name := "dictBack", fn := fun _ => fun
  | [d] => { results := [.lit (.bool false)], args := [d] }
  | _ => none }
def DictBackWrongFalsely : Prop := dictBackRow.holds Try.pinned (OpenSpec.ofChange dictBackWrong)

/-- 'hypostylelaw.DictOrder': WHATEVER THE INPUT: true; the input reads as it did. -/
def dictOrderSpec : ChangeSpec := { name := "dictOrder", fn := fun _ => fun
  | [d1, d2, d3] => { results := [.lit (.bool true)], args := [d1, d2, d3] }
  | _ => none }
def dictOrderRow : OpenClaim := { program := "ytpheegfanljeeaa", sum := "db698162948429b309ca84756e442c70d583b3aed5cd7a2100eb0649663f9591", func := "hypostyle/hypostylelaw.DictOrder", spec := "dictOrder", unfollowed := true, recurses := true, apart := false }
def DictOrderSaid : Prop := dictOrderRow.holds Try.pinned (OpenSpec.ofChange dictOrderSpec)

/-- ITS FALSE NEIGHBOUR: 'it returns false'. Refute it at one input. -/
def dictOrderWrong : ChangeSpec := { name := "dictOrder", fn := fun _ => fun
  | [d1, d2, d3] => { results := [.lit (.bool false)], args := [d1, d2, d3] }
  | _ => none }
def DictOrderWrongFalsely : Prop := dictOrderRow.holds Try.pinned (OpenSpec.ofChange dictOrderWrong)

/-- 'hypostylelaw.DictLeast': WHATEVER THE INPUT: true; the input reads as it did. -/
def dictLeastSpec : ChangeSpec := { name := "dictLeast", fn := fun _ => fun
  | [d] => { results := [.lit (.bool true)], args := [d] }
  | _ => none }
def dictLeastRow : OpenClaim := { program := "ytpheegfanljeeaa", sum := "db698162948429b309ca84756e442c70d583b3aed5cd7a2100eb0649663f9591", func := "hypostyle/hypostylelaw.DictLeast", spec := "dictLeast", unfollowed := true, recurses := true, apart := false }
def DictLeastSaid : Prop := dictLeastRow.holds Try.pinned (OpenSpec.ofChange dictLeastSpec)

/-- ITS FALSE NEIGHBOUR: 'it returns false'. Refute it at one input. -/
def dictLeastWrong : ChangeSpec := { name := "dictLeast", fn := fun _ => fun
  | [d] => { results := [.lit (.bool false)], args := [d] }
  | _ => none }
def DictLeastWrongFalsely : Prop := dictLeastRow.holds Try.pinned (OpenSpec.ofChange dictLeastWrong)

/-- 'hypostylelaw.DictSpans': WHATEVER THE INPUT: true; the input reads as it did. -/
def dictSpansSpec : ChangeSpec := { name := "dictSpans", fn := fun _ => fun
  | [d1, d2, d3, d4] => { results := [.lit (.bool true)], args := [d1, d2, d3, d4] }
  | _ => none }
def dictSpansRow : OpenClaim := { program := "ytpheegfanljeeaa", sum := "db698162948429b309ca84756e442c70d583b3aed5cd7a2100eb0649663f9591", func := "hypostyle/hypostylelaw.DictSpans", spec := "dictSpans", unfollowed := true, recurses := true, apart := false }
def DictSpansSaid : Prop := dictSpansRow.holds Try.pinned (OpenSpec.ofChange dictSpansSpec)

/-- ITS FALSE NEIGHBOUR: 'it returns false'. Refute it at one input. -/
def dictSpansWrong : ChangeSpec := { name := "dictSpans", fn := fun _ => fun
  | [d1, d2, d3, d4] => { results := [.lit (.bool false)], args := [d1, d2, d3, d4] }
  | _ => none }
def DictSpansWrongFalsely : Prop := dictSpansRow.holds Try.pinned (OpenSpec.ofChange dictSpansWrong)

/- THE SECOND FORM. 'bulk': how many values and letters a reading holds, each counted each time it is reached (what is shared counts as often as it is met; a slice's spare places count too). A statement '..UptoSaid' is the law's where the arguments, and the package variables that the reading takes, are together of bulk at most 1048576: NARROWER than '..Said'. Prove '..Said' where nothing that the law and all that it calls make is longer than what came in: it says more and counts as full. Else prove '..UptoSaid'. A law counts once. -/
mutual
def uptoBulk {H : Type} : DataW H → Nat
  | .lit (.string bytes) => bytes.length + 1
  | .lit _ => 1
  | .nil => 1
  | .ptr d => uptoBulk d + 1
  | .slice elems spare => uptoBulkAll elems + uptoBulkAll spare + 1
  | .agg parts => uptoBulkAll parts + 1
  | .iface _ d => uptoBulk d + 1
  | .map entries => uptoBulkEntries entries + 1
  | .held _ => 1
def uptoBulkAll {H : Type} : List (DataW H) → Nat
  | [] => 0
  | d :: r => uptoBulk d + uptoBulkAll r
def uptoBulkEntries {H : Type} : List (Lit × DataW H) → Nat
  | [] => 0
  | x :: r => uptoBulkEntry x + uptoBulkEntries r
def uptoBulkEntry {H : Type} : Lit × DataW H → Nat
  | (.string bytes, d) => bytes.length + uptoBulk d + 1
  | (_, d) => uptoBulk d + 1
 end
def uptoSmall : (H : Type) → List (DataW H) → Bool := fun _ ds => decide (uptoBulkAll ds ≤ 1048576)
def OpenSpec.upto (s : _root_.Go.ChangeSpec) : _root_.Go.OpenSpec := { _root_.Go.OpenSpec.ofChange s with cond := some uptoSmall }

/-- 'hypostylelaw.PredTells', WHERE WHAT IT READS IS OF BULK AT MOST 1048576: true; the input reads as it did. -/
def predTellsUptoRow : OpenClaim := { program := "ytpheegfanljeeaa", sum := "db698162948429b309ca84756e442c70d583b3aed5cd7a2100eb0649663f9591", func := "hypostyle/hypostylelaw.PredTells", spec := "predTells", inPlace := ["internal/bytealg.abigen_runtime_cmpstring"], unfollowed := true, recurses := true, apart := false, narrowed := true }
def PredTellsUptoSaid : Prop := predTellsUptoRow.holds Try.pinned (OpenSpec.upto predTellsSpec)

/-- 'hypostylelaw.PruneTells', WHERE WHAT IT READS IS OF BULK AT MOST 1048576: true; the input reads as it did. -/
def pruneTellsUptoRow : OpenClaim := { program := "ytpheegfanljeeaa", sum := "db698162948429b309ca84756e442c70d583b3aed5cd7a2100eb0649663f9591", func := "hypostyle/hypostylelaw.PruneTells", spec := "pruneTells", inPlace := ["internal/bytealg.abigen_runtime_cmpstring"], unfollowed := true, recurses := true, apart := false, narrowed := true }
def PruneTellsUptoSaid : Prop := pruneTellsUptoRow.holds Try.pinned (OpenSpec.upto pruneTellsSpec)

/-- 'hypostylelaw.PredKleene', WHERE WHAT IT READS IS OF BULK AT MOST 1048576: true; the input reads as it did. -/
def predKleeneUptoRow : OpenClaim := { program := "ytpheegfanljeeaa", sum := "db698162948429b309ca84756e442c70d583b3aed5cd7a2100eb0649663f9591", func := "hypostyle/hypostylelaw.PredKleene", spec := "predKleene", inPlace := ["internal/bytealg.abigen_runtime_cmpstring"], unfollowed := true, recurses := true, apart := false, narrowed := true }
def PredKleeneUptoSaid : Prop := predKleeneUptoRow.holds Try.pinned (OpenSpec.upto predKleeneSpec)

/-- 'hypostylelaw.PruneSound', WHERE WHAT IT READS IS OF BULK AT MOST 1048576: true; the input reads as it did. -/
def pruneSoundUptoRow : OpenClaim := { program := "ytpheegfanljeeaa", sum := "db698162948429b309ca84756e442c70d583b3aed5cd7a2100eb0649663f9591", func := "hypostyle/hypostylelaw.PruneSound", spec := "pruneSound", inPlace := ["internal/bytealg.abigen_runtime_cmpstring"], unfollowed := true, recurses := true, apart := false, narrowed := true }
def PruneSoundUptoSaid : Prop := pruneSoundUptoRow.holds Try.pinned (OpenSpec.upto pruneSoundSpec)

/-- 'hypostylelaw.PruneMore', WHERE WHAT IT READS IS OF BULK AT MOST 1048576: true; the input reads as it did. -/
def pruneMoreUptoRow : OpenClaim := { program := "ytpheegfanljeeaa", sum := "db698162948429b309ca84756e442c70d583b3aed5cd7a2100eb0649663f9591", func := "hypostyle/hypostylelaw.PruneMore", spec := "pruneMore", inPlace := ["internal/bytealg.abigen_runtime_cmpstring"], unfollowed := true, recurses := true, apart := false, narrowed := true }
def PruneMoreUptoSaid : Prop := pruneMoreUptoRow.holds Try.pinned (OpenSpec.upto pruneMoreSpec)

/-- 'hypostylelaw.DictTells', WHERE WHAT IT READS IS OF BULK AT MOST 1048576: true; the input reads as it did. -/
def dictTellsUptoRow : OpenClaim := { program := "ytpheegfanljeeaa", sum := "db698162948429b309ca84756e442c70d583b3aed5cd7a2100eb0649663f9591", func := "hypostyle/hypostylelaw.DictTells", spec := "dictTells", unfollowed := true, recurses := true, apart := false, narrowed := true }
def DictTellsUptoSaid : Prop := dictTellsUptoRow.holds Try.pinned (OpenSpec.upto dictTellsSpec)

/-- 'hypostylelaw.DictReads', WHERE WHAT IT READS IS OF BULK AT MOST 1048576: true; the input reads as it did. -/
def dictReadsUptoRow : OpenClaim := { program := "ytpheegfanljeeaa", sum := "db698162948429b309ca84756e442c70d583b3aed5cd7a2100eb0649663f9591", func := "hypostyle/hypostylelaw.DictReads", spec := "dictReads", unfollowed := true, recurses := true, apart := false, narrowed := true }
def DictReadsUptoSaid : Prop := dictReadsUptoRow.holds Try.pinned (OpenSpec.upto dictReadsSpec)

/-- 'hypostylelaw.DictBack', WHERE WHAT IT READS IS OF BULK AT MOST 1048576: true; the input reads as it did. -/
def dictBackUptoRow : OpenClaim := { program := "ytpheegfanljeeaa", sum := "db698162948429b309ca84756e442c70d583b3aed5cd7a2100eb0649663f9591", func := "hypostyle/hypostylelaw.DictBack", spec := "dictBack", unfollowed := true, recurses := true, apart := false, narrowed := true }
def DictBackUptoSaid : Prop := dictBackUptoRow.holds Try.pinned (OpenSpec.upto dictBackSpec)

/-- 'hypostylelaw.DictOrder', WHERE WHAT IT READS IS OF BULK AT MOST 1048576: true; the input reads as it did. -/
def dictOrderUptoRow : OpenClaim := { program := "ytpheegfanljeeaa", sum := "db698162948429b309ca84756e442c70d583b3aed5cd7a2100eb0649663f9591", func := "hypostyle/hypostylelaw.DictOrder", spec := "dictOrder", unfollowed := true, recurses := true, apart := false, narrowed := true }
def DictOrderUptoSaid : Prop := dictOrderUptoRow.holds Try.pinned (OpenSpec.upto dictOrderSpec)

/-- 'hypostylelaw.DictLeast', WHERE WHAT IT READS IS OF BULK AT MOST 1048576: true; the input reads as it did. -/
def dictLeastUptoRow : OpenClaim := { program := "ytpheegfanljeeaa", sum := "db698162948429b309ca84756e442c70d583b3aed5cd7a2100eb0649663f9591", func := "hypostyle/hypostylelaw.DictLeast", spec := "dictLeast", unfollowed := true, recurses := true, apart := false, narrowed := true }
def DictLeastUptoSaid : Prop := dictLeastUptoRow.holds Try.pinned (OpenSpec.upto dictLeastSpec)

/-- 'hypostylelaw.DictSpans', WHERE WHAT IT READS IS OF BULK AT MOST 1048576: true; the input reads as it did. -/
def dictSpansUptoRow : OpenClaim := { program := "ytpheegfanljeeaa", sum := "db698162948429b309ca84756e442c70d583b3aed5cd7a2100eb0649663f9591", func := "hypostyle/hypostylelaw.DictSpans", spec := "dictSpans", unfollowed := true, recurses := true, apart := false, narrowed := true }
def DictSpansUptoSaid : Prop := dictSpansUptoRow.holds Try.pinned (OpenSpec.upto dictSpansSpec)

end Rows
end Go.Proofs.Ytpheegfanljeeaa
