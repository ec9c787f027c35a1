/-
  No cell of these rows narrows 'for every input' (looked for: loops, veiled, ifaces, maps, wideKeys, modest, calm, conditions, laid).
  DERIVED. THE GIVEN ROWS OF THIS SEAT. 13 by the template 'for every input the law returns true; each argument reads behind the call as it read before'; 0 by the template 'total and deterministic' (their statements: YthcmmmccbpfflaaTotals.lean).
  GIVEN WITH THE SEED: the statements are not yours to turn. If you find one false, say at which input.
  Laid BY PROGRAM, IN A SANDBOX (cutbox-rows.mjs): the forced cells as the released guide's own fill.sh prints them over the translation f91acb890cf4d592… (all of the seat's roots in one cut). By AI agents, Wed Nov 11 2026. No macro, syntax, notation, axiom, sorry.
-/
import Derived.Test.YthcmmmccbpfflaaChecked
import GoSem.Claim
import GoSem.ClaimJoined
import GoSem.ClaimMapViews
import Derived.JoinedTies
import Derived.KernelRfl
namespace Go.Proofs.Ythcmmmccbpfflaa
/- THE CELL 'sum', in the pinned program and in every row, IS THE sha256 OF THE DUMP (.gsa) THAT YthcmmmccbpfflaaProg.lean LOADS. Nothing in Lean hashes anything: it is a label: what it is worth is what the hold of that sum in a sandbox is worth. -/
noncomputable def Try.pinned : Pinned := { name := "ythcmmmccbpfflaa", sum := "f91acb890cf4d592775e9ef023c5616b5b8d7c3c0996bf402252ac1b31c8a882", checked := Try.checked }
namespace Rows
def none {H : Type} : Left H := { results := [], args := [] }

/-- 'hypostylelaw.VaryTells': WHATEVER THE INPUT: true; the input reads as it did. -/
def varyTellsSpec : ChangeSpec := { name := "varyTells", fn := fun _ => fun
  | [d1, d2] => { results := [.lit (.bool true)], args := [d1, d2] }
  | _ => none }
def varyTellsRow : OpenClaim := { program := "ythcmmmccbpfflaa", sum := "f91acb890cf4d592775e9ef023c5616b5b8d7c3c0996bf402252ac1b31c8a882", func := "hypostyle/hypostylelaw.VaryTells", spec := "varyTells", unfollowed := true, recurses := true, apart := false }
def VaryTellsSaid : Prop := varyTellsRow.holds Try.pinned (OpenSpec.ofChange varyTellsSpec)

/-- ITS FALSE NEIGHBOUR: 'it returns false'. Refute it at one input. -/
def varyTellsWrong : ChangeSpec := { name := "varyTells", fn := fun _ => fun
  | [d1, d2] => { results := [.lit (.bool false)], args := [d1, d2] }
  | _ => none }
def VaryTellsWrongFalsely : Prop := varyTellsRow.holds Try.pinned (OpenSpec.ofChange varyTellsWrong)

/-- 'hypostylelaw.VaryOnly': WHATEVER THE INPUT: true; the input reads as it did. -/
def varyOnlySpec : ChangeSpec := { name := "varyOnly", fn := fun _ => fun
  | [d] => { results := [.lit (.bool true)], args := [d] }
  | _ => none }
def varyOnlyRow : OpenClaim := { program := "ythcmmmccbpfflaa", sum := "f91acb890cf4d592775e9ef023c5616b5b8d7c3c0996bf402252ac1b31c8a882", func := "hypostyle/hypostylelaw.VaryOnly", spec := "varyOnly", unfollowed := true, recurses := true, apart := false }
def VaryOnlySaid : Prop := varyOnlyRow.holds Try.pinned (OpenSpec.ofChange varyOnlySpec)

/-- ITS FALSE NEIGHBOUR: 'it returns false'. Refute it at one input. -/
def varyOnlyWrong : ChangeSpec := { name := "varyOnly", fn := fun _ => fun
  | [d] => { results := [.lit (.bool false)], args := [d] }
  | _ => none }
def VaryOnlyWrongFalsely : Prop := varyOnlyRow.holds Try.pinned (OpenSpec.ofChange varyOnlyWrong)

/-- 'hypostylelaw.VaryOrder': WHATEVER THE INPUT: true; the input reads as it did. -/
def varyOrderSpec : ChangeSpec := { name := "varyOrder", fn := fun _ => fun
  | [d1, d2] => { results := [.lit (.bool true)], args := [d1, d2] }
  | _ => none }
def varyOrderRow : OpenClaim := { program := "ythcmmmccbpfflaa", sum := "f91acb890cf4d592775e9ef023c5616b5b8d7c3c0996bf402252ac1b31c8a882", func := "hypostyle/hypostylelaw.VaryOrder", spec := "varyOrder", unfollowed := true, recurses := true, apart := false }
def VaryOrderSaid : Prop := varyOrderRow.holds Try.pinned (OpenSpec.ofChange varyOrderSpec)

/-- ITS FALSE NEIGHBOUR: 'it returns false'. Refute it at one input. -/
def varyOrderWrong : ChangeSpec := { name := "varyOrder", fn := fun _ => fun
  | [d1, d2] => { results := [.lit (.bool false)], args := [d1, d2] }
  | _ => none }
def VaryOrderWrongFalsely : Prop := varyOrderRow.holds Try.pinned (OpenSpec.ofChange varyOrderWrong)

/-- 'hypostylelaw.VaryCut': WHATEVER THE INPUT: true; the input reads as it did. -/
def varyCutSpec : ChangeSpec := { name := "varyCut", fn := fun _ => fun
  | [d1, d2] => { results := [.lit (.bool true)], args := [d1, d2] }
  | _ => none }
def varyCutRow : OpenClaim := { program := "ythcmmmccbpfflaa", sum := "f91acb890cf4d592775e9ef023c5616b5b8d7c3c0996bf402252ac1b31c8a882", func := "hypostyle/hypostylelaw.VaryCut", spec := "varyCut", unfollowed := true, recurses := true, apart := false }
def VaryCutSaid : Prop := varyCutRow.holds Try.pinned (OpenSpec.ofChange varyCutSpec)

/-- ITS FALSE NEIGHBOUR: 'it returns false'. Refute it at one input. -/
def varyCutWrong : ChangeSpec := { name := "varyCut", fn := fun _ => fun
  | [d1, d2] => { results := [.lit (.bool false)], args := [d1, d2] }
  | _ => none }
def VaryCutWrongFalsely : Prop := varyCutRow.holds Try.pinned (OpenSpec.ofChange varyCutWrong)

/-- 'hypostylelaw.VaryLists': WHATEVER THE INPUT: true; the input reads as it did. -/
def varyListsSpec : ChangeSpec := { name := "varyLists", fn := fun _ => fun
  | [d1, d2] => { results := [.lit (.bool true)], args := [d1, d2] }
  | _ => none }
def varyListsRow : OpenClaim := { program := "ythcmmmccbpfflaa", sum := "f91acb890cf4d592775e9ef023c5616b5b8d7c3c0996bf402252ac1b31c8a882", func := "hypostyle/hypostylelaw.VaryLists", spec := "varyLists", unfollowed := true, recurses := true, apart := false }
def VaryListsSaid : Prop := varyListsRow.holds Try.pinned (OpenSpec.ofChange varyListsSpec)

/-- ITS FALSE NEIGHBOUR: 'it returns false'. Refute it at one input. -/
def varyListsWrong : ChangeSpec := { name := "varyLists", fn := fun _ => fun
  | [d1, d2] => { results := [.lit (.bool false)], args := [d1, d2] }
  | _ => none }
def VaryListsWrongFalsely : Prop := varyListsRow.holds Try.pinned (OpenSpec.ofChange varyListsWrong)

/-- 'hypostylelaw.VaryBack': WHATEVER THE INPUT: true; the input reads as it did. -/
def varyBackSpec : ChangeSpec := { name := "varyBack", fn := fun _ => fun
  | [d1, d2, d3] => { results := [.lit (.bool true)], args := [d1, d2, d3] }
  | _ => none }
def varyBackRow : OpenClaim := { program := "ythcmmmccbpfflaa", sum := "f91acb890cf4d592775e9ef023c5616b5b8d7c3c0996bf402252ac1b31c8a882", func := "hypostyle/hypostylelaw.VaryBack", spec := "varyBack", unfollowed := true, recurses := true, apart := false }
def VaryBackSaid : Prop := varyBackRow.holds Try.pinned (OpenSpec.ofChange varyBackSpec)

/-- ITS FALSE NEIGHBOUR: 'it returns false'. Refute it at one input. -/
def varyBackWrong : ChangeSpec := { name := "varyBack", fn := fun _ => fun
  | [d1, d2, d3] => { results := [.lit (.bool false)], args := [d1, d2, d3] }
  | _ => none }
def VaryBackWrongFalsely : Prop := varyBackRow.holds Try.pinned (OpenSpec.ofChange varyBackWrong)

/-- 'hypostylelaw.VaryRows': WHATEVER THE INPUT: true; the input reads as it did. -/
def varyRowsSpec : ChangeSpec := { name := "varyRows", fn := fun _ => fun
  | [d1, d2] => { results := [.lit (.bool true)], args := [d1, d2] }
  | _ => none }
def varyRowsRow : OpenClaim := { program := "ythcmmmccbpfflaa", sum := "f91acb890cf4d592775e9ef023c5616b5b8d7c3c0996bf402252ac1b31c8a882", func := "hypostyle/hypostylelaw.VaryRows", spec := "varyRows", unfollowed := true, recurses := true, apart := false }
def VaryRowsSaid : Prop := varyRowsRow.holds Try.pinned (OpenSpec.ofChange varyRowsSpec)

/-- ITS FALSE NEIGHBOUR: 'it returns false'. Refute it at one input. -/
def varyRowsWrong : ChangeSpec := { name := "varyRows", fn := fun _ => fun
  | [d1, d2] => { results := [.lit (.bool false)], args := [d1, d2] }
  | _ => none }
def VaryRowsWrongFalsely : Prop := varyRowsRow.holds Try.pinned (OpenSpec.ofChange varyRowsWrong)

/-- 'hypostylelaw.BitsTells': WHATEVER THE INPUT: true; the input reads as it did. -/
def bitsTellsSpec : ChangeSpec := { name := "bitsTells", fn := fun _ => fun
  | [d1, d2] => { results := [.lit (.bool true)], args := [d1, d2] }
  | _ => none }
def bitsTellsRow : OpenClaim := { program := "ythcmmmccbpfflaa", sum := "f91acb890cf4d592775e9ef023c5616b5b8d7c3c0996bf402252ac1b31c8a882", func := "hypostyle/hypostylelaw.BitsTells", spec := "bitsTells", apart := false }
def BitsTellsSaid : Prop := bitsTellsRow.holds Try.pinned (OpenSpec.ofChange bitsTellsSpec)

/-- ITS FALSE NEIGHBOUR: 'it returns false'. Refute it at one input. -/
def bitsTellsWrong : ChangeSpec := { name := "bitsTells", fn := fun _ => fun
  | [d1, d2] => { results := [.lit (.bool false)], args := [d1, d2] }
  | _ => none }
def BitsTellsWrongFalsely : Prop := bitsTellsRow.holds Try.pinned (OpenSpec.ofChange bitsTellsWrong)

/-- 'hypostylelaw.BitsReads': WHATEVER THE INPUT: true; the input reads as it did. -/
def bitsReadsSpec : ChangeSpec := { name := "bitsReads", fn := fun _ => fun
  | [d1, d2, d3, d4] => { results := [.lit (.bool true)], args := [d1, d2, d3, d4] }
  | _ => none }
def bitsReadsRow : OpenClaim := { program := "ythcmmmccbpfflaa", sum := "f91acb890cf4d592775e9ef023c5616b5b8d7c3c0996bf402252ac1b31c8a882", func := "hypostyle/hypostylelaw.BitsReads", spec := "bitsReads", apart := false }
def BitsReadsSaid : Prop := bitsReadsRow.holds Try.pinned (OpenSpec.ofChange bitsReadsSpec)

/-- ITS FALSE NEIGHBOUR: 'it returns false'. Refute it at one input. -/
def bitsReadsWrong : ChangeSpec := { name := "bitsReads", fn := fun _ => fun
  | [d1, d2, d3, d4] => { results := [.lit (.bool false)], args := [d1, d2, d3, d4] }
  | _ => none }
def BitsReadsWrongFalsely : Prop := bitsReadsRow.holds Try.pinned (OpenSpec.ofChange bitsReadsWrong)

/-- 'hypostylelaw.BitsBack': WHATEVER THE INPUT: true; the input reads as it did. -/
def bitsBackSpec : ChangeSpec := { name := "bitsBack", fn := fun _ => fun
  | [d1, d2, d3] => { results := [.lit (.bool true)], args := [d1, d2, d3] }
  | _ => none }
def bitsBackRow : OpenClaim := { program := "ythcmmmccbpfflaa", sum := "f91acb890cf4d592775e9ef023c5616b5b8d7c3c0996bf402252ac1b31c8a882", func := "hypostyle/hypostylelaw.BitsBack", spec := "bitsBack", apart := false }
def BitsBackSaid : Prop := bitsBackRow.holds Try.pinned (OpenSpec.ofChange bitsBackSpec)

/-- ITS FALSE NEIGHBOUR: 'it returns false'. Refute it at one input. -/
def bitsBackWrong : ChangeSpec := { name := "bitsBack", fn := fun _ => fun
  | [d1, d2, d3] => { results := [.lit (.bool false)], args := [d1, d2, d3] }
  | _ => none }
def BitsBackWrongFalsely : Prop := bitsBackRow.holds Try.pinned (OpenSpec.ofChange bitsBackWrong)

/-- 'hypostylelaw.BitsOnly': WHATEVER THE INPUT: true; the input reads as it did. -/
def bitsOnlySpec : ChangeSpec := { name := "bitsOnly", fn := fun _ => fun
  | [d1, d2, d3] => { results := [.lit (.bool true)], args := [d1, d2, d3] }
  | _ => none }
def bitsOnlyRow : OpenClaim := { program := "ythcmmmccbpfflaa", sum := "f91acb890cf4d592775e9ef023c5616b5b8d7c3c0996bf402252ac1b31c8a882", func := "hypostyle/hypostylelaw.BitsOnly", spec := "bitsOnly", apart := false }
def BitsOnlySaid : Prop := bitsOnlyRow.holds Try.pinned (OpenSpec.ofChange bitsOnlySpec)

/-- ITS FALSE NEIGHBOUR: 'it returns false'. Refute it at one input. -/
def bitsOnlyWrong : ChangeSpec := { name := "bitsOnly", fn := fun _ => fun
  | [d1, d2, d3] => { results := [.lit (.bool false)], args := [d1, d2, d3] }
  | _ => none }
def BitsOnlyWrongFalsely : Prop := bitsOnlyRow.holds Try.pinned (OpenSpec.ofChange bitsOnlyWrong)

/-- 'hypostylelaw.BitsLeast': WHATEVER THE INPUT: true; the input reads as it did. -/
def bitsLeastSpec : ChangeSpec := { name := "bitsLeast", fn := fun _ => fun
  | [d1, d2] => { results := [.lit (.bool true)], args := [d1, d2] }
  | _ => none }
def bitsLeastRow : OpenClaim := { program := "ythcmmmccbpfflaa", sum := "f91acb890cf4d592775e9ef023c5616b5b8d7c3c0996bf402252ac1b31c8a882", func := "hypostyle/hypostylelaw.BitsLeast", spec := "bitsLeast", apart := false }
def BitsLeastSaid : Prop := bitsLeastRow.holds Try.pinned (OpenSpec.ofChange bitsLeastSpec)

/-- ITS FALSE NEIGHBOUR: 'it returns false'. Refute it at one input. -/
def bitsLeastWrong : ChangeSpec := { name := "bitsLeast", fn := fun _ => fun
  | [d1, d2] => { results := [.lit (.bool false)], args := [d1, d2] }
  | _ => none }
def BitsLeastWrongFalsely : Prop := bitsLeastRow.holds Try.pinned (OpenSpec.ofChange bitsLeastWrong)

/-- 'hypostylelaw.BitsJoins': WHATEVER THE INPUT: true; the input reads as it did. -/
def bitsJoinsSpec : ChangeSpec := { name := "bitsJoins", fn := fun _ => fun
  | [d1, d2, d3] => { results := [.lit (.bool true)], args := [d1, d2, d3] }
  | _ => none }
def bitsJoinsRow : OpenClaim := { program := "ythcmmmccbpfflaa", sum := "f91acb890cf4d592775e9ef023c5616b5b8d7c3c0996bf402252ac1b31c8a882", func := "hypostyle/hypostylelaw.BitsJoins", spec := "bitsJoins", apart := false }
def BitsJoinsSaid : Prop := bitsJoinsRow.holds Try.pinned (OpenSpec.ofChange bitsJoinsSpec)

/-- ITS FALSE NEIGHBOUR: 'it returns false'. Refute it at one input. -/
def bitsJoinsWrong : ChangeSpec := { name := "bitsJoins", fn := fun _ => fun
  | [d1, d2, d3] => { results := [.lit (.bool false)], args := [d1, d2, d3] }
  | _ => none }
def BitsJoinsWrongFalsely : Prop := bitsJoinsRow.holds Try.pinned (OpenSpec.ofChange bitsJoinsWrong)

/- THE SECOND FORM. 'bulk': how many values and letters a reading holds, each counted each time it is reached (what is shared counts as often as it is met; a slice's spare places count too). A statement '..UptoSaid' is the law's where the arguments, and the package variables that the reading takes, are together of bulk at most 1048576: NARROWER than '..Said'. Prove '..Said' where nothing that the law and all that it calls make is longer than what came in: it says more and counts as full. Else prove '..UptoSaid'. A law counts once. -/
mutual
def uptoBulk {H : Type} : DataW H → Nat
  | .lit (.string bytes) => bytes.length + 1
  | .lit _ => 1
  | .nil => 1
  | .ptr d => uptoBulk d + 1
  | .slice elems spare => uptoBulkAll elems + uptoBulkAll spare + 1
  | .agg parts => uptoBulkAll parts + 1
  | .iface _ d => uptoBulk d + 1
  | .map entries => uptoBulkEntries entries + 1
  | .held _ => 1
def uptoBulkAll {H : Type} : List (DataW H) → Nat
  | [] => 0
  | d :: r => uptoBulk d + uptoBulkAll r
def uptoBulkEntries {H : Type} : List (Lit × DataW H) → Nat
  | [] => 0
  | x :: r => uptoBulkEntry x + uptoBulkEntries r
def uptoBulkEntry {H : Type} : Lit × DataW H → Nat
  | (.string bytes, d) => bytes.length + uptoBulk d + 1
  | (_, d) => uptoBulk d + 1
 end
def uptoSmall : (H : Type) → List (DataW H) → Bool := fun _ ds => decide (uptoBulkAll ds ≤ 1048576)
def OpenSpec.upto (s : _root_.Go.ChangeSpec) : _root_.Go.OpenSpec := { _root_.Go.OpenSpec.ofChange s with cond := some uptoSmall }

/-- 'hypostylelaw.VaryTells', WHERE WHAT IT READS IS OF BULK AT MOST 1048576: true; the input reads as it did. -/
def varyTellsUptoRow : OpenClaim := { program := "ythcmmmccbpfflaa", sum := "f91acb890cf4d592775e9ef023c5616b5b8d7c3c0996bf402252ac1b31c8a882", func := "hypostyle/hypostylelaw.VaryTells", spec := "varyTells", unfollowed := true, recurses := true, apart := false, narrowed := true }
def VaryTellsUptoSaid : Prop := varyTellsUptoRow.holds Try.pinned (OpenSpec.upto varyTellsSpec)

/-- 'hypostylelaw.VaryOnly', WHERE WHAT IT READS IS OF BULK AT MOST 1048576: true; the input reads as it did. -/
def varyOnlyUptoRow : OpenClaim := { program := "ythcmmmccbpfflaa", sum := "f91acb890cf4d592775e9ef023c5616b5b8d7c3c0996bf402252ac1b31c8a882", func := "hypostyle/hypostylelaw.VaryOnly", spec := "varyOnly", unfollowed := true, recurses := true, apart := false, narrowed := true }
def VaryOnlyUptoSaid : Prop := varyOnlyUptoRow.holds Try.pinned (OpenSpec.upto varyOnlySpec)

/-- 'hypostylelaw.VaryOrder', WHERE WHAT IT READS IS OF BULK AT MOST 1048576: true; the input reads as it did. -/
def varyOrderUptoRow : OpenClaim := { program := "ythcmmmccbpfflaa", sum := "f91acb890cf4d592775e9ef023c5616b5b8d7c3c0996bf402252ac1b31c8a882", func := "hypostyle/hypostylelaw.VaryOrder", spec := "varyOrder", unfollowed := true, recurses := true, apart := false, narrowed := true }
def VaryOrderUptoSaid : Prop := varyOrderUptoRow.holds Try.pinned (OpenSpec.upto varyOrderSpec)

/-- 'hypostylelaw.VaryCut', WHERE WHAT IT READS IS OF BULK AT MOST 1048576: true; the input reads as it did. -/
def varyCutUptoRow : OpenClaim := { program := "ythcmmmccbpfflaa", sum := "f91acb890cf4d592775e9ef023c5616b5b8d7c3c0996bf402252ac1b31c8a882", func := "hypostyle/hypostylelaw.VaryCut", spec := "varyCut", unfollowed := true, recurses := true, apart := false, narrowed := true }
def VaryCutUptoSaid : Prop := varyCutUptoRow.holds Try.pinned (OpenSpec.upto varyCutSpec)

/-- 'hypostylelaw.VaryLists', WHERE WHAT IT READS IS OF BULK AT MOST 1048576: true; the input reads as it did. -/
def varyListsUptoRow : OpenClaim := { program := "ythcmmmccbpfflaa", sum := "f91acb890cf4d592775e9ef023c5616b5b8d7c3c0996bf402252ac1b31c8a882", func := "hypostyle/hypostylelaw.VaryLists", spec := "varyLists", unfollowed := true, recurses := true, apart := false, narrowed := true }
def VaryListsUptoSaid : Prop := varyListsUptoRow.holds Try.pinned (OpenSpec.upto varyListsSpec)

/-- 'hypostylelaw.VaryBack', WHERE WHAT IT READS IS OF BULK AT MOST 1048576: true; the input reads as it did. -/
def varyBackUptoRow : OpenClaim := { program := "ythcmmmccbpfflaa", sum := "f91acb890cf4d592775e9ef023c5616b5b8d7c3c0996bf402252ac1b31c8a882", func := "hypostyle/hypostylelaw.VaryBack", spec := "varyBack", unfollowed := true, recurses := true, apart := false, narrowed := true }
def VaryBackUptoSaid : Prop := varyBackUptoRow.holds Try.pinned (OpenSpec.upto varyBackSpec)

/-- 'hypostylelaw.VaryRows', WHERE WHAT IT READS IS OF BULK AT MOST 1048576: true; the input reads as it did. -/
def varyRowsUptoRow : OpenClaim := { program := "ythcmmmccbpfflaa", sum := "f91acb890cf4d592775e9ef023c5616b5b8d7c3c0996bf402252ac1b31c8a882", func := "hypostyle/hypostylelaw.VaryRows", spec := "varyRows", unfollowed := true, recurses := true, apart := false, narrowed := true }
def VaryRowsUptoSaid : Prop := varyRowsUptoRow.holds Try.pinned (OpenSpec.upto varyRowsSpec)

/-- 'hypostylelaw.BitsTells', WHERE WHAT IT READS IS OF BULK AT MOST 1048576: true; the input reads as it did. -/
def bitsTellsUptoRow : OpenClaim := { program := "ythcmmmccbpfflaa", sum := "f91acb890cf4d592775e9ef023c5616b5b8d7c3c0996bf402252ac1b31c8a882", func := "hypostyle/hypostylelaw.BitsTells", spec := "bitsTells", apart := false, narrowed := true }
def BitsTellsUptoSaid : Prop := bitsTellsUptoRow.holds Try.pinned (OpenSpec.upto bitsTellsSpec)

/-- 'hypostylelaw.BitsReads', WHERE WHAT IT READS IS OF BULK AT MOST 1048576: true; the input reads as it did. -/
def bitsReadsUptoRow : OpenClaim := { program := "ythcmmmccbpfflaa", sum := "f91acb890cf4d592775e9ef023c5616b5b8d7c3c0996bf402252ac1b31c8a882", func := "hypostyle/hypostylelaw.BitsReads", spec := "bitsReads", apart := false, narrowed := true }
def BitsReadsUptoSaid : Prop := bitsReadsUptoRow.holds Try.pinned (OpenSpec.upto bitsReadsSpec)

/-- 'hypostylelaw.BitsBack', WHERE WHAT IT READS IS OF BULK AT MOST 1048576: true; the input reads as it did. -/
def bitsBackUptoRow : OpenClaim := { program := "ythcmmmccbpfflaa", sum := "f91acb890cf4d592775e9ef023c5616b5b8d7c3c0996bf402252ac1b31c8a882", func := "hypostyle/hypostylelaw.BitsBack", spec := "bitsBack", apart := false, narrowed := true }
def BitsBackUptoSaid : Prop := bitsBackUptoRow.holds Try.pinned (OpenSpec.upto bitsBackSpec)

/-- 'hypostylelaw.BitsOnly', WHERE WHAT IT READS IS OF BULK AT MOST 1048576: true; the input reads as it did. -/
def bitsOnlyUptoRow : OpenClaim := { program := "ythcmmmccbpfflaa", sum := "f91acb890cf4d592775e9ef023c5616b5b8d7c3c0996bf402252ac1b31c8a882", func := "hypostyle/hypostylelaw.BitsOnly", spec := "bitsOnly", apart := false, narrowed := true }
def BitsOnlyUptoSaid : Prop := bitsOnlyUptoRow.holds Try.pinned (OpenSpec.upto bitsOnlySpec)

/-- 'hypostylelaw.BitsLeast', WHERE WHAT IT READS IS OF BULK AT MOST 1048576: true; the input reads as it did. -/
def bitsLeastUptoRow : OpenClaim := { program := "ythcmmmccbpfflaa", sum := "f91acb890cf4d592775e9ef023c5616b5b8d7c3c0996bf402252ac1b31c8a882", func := "hypostyle/hypostylelaw.BitsLeast", spec := "bitsLeast", apart := false, narrowed := true }
def BitsLeastUptoSaid : Prop := bitsLeastUptoRow.holds Try.pinned (OpenSpec.upto bitsLeastSpec)

/-- 'hypostylelaw.BitsJoins', WHERE WHAT IT READS IS OF BULK AT MOST 1048576: true; the input reads as it did. -/
def bitsJoinsUptoRow : OpenClaim := { program := "ythcmmmccbpfflaa", sum := "f91acb890cf4d592775e9ef023c5616b5b8d7c3c0996bf402252ac1b31c8a882", func := "hypostyle/hypostylelaw.BitsJoins", spec := "bitsJoins", apart := false, narrowed := true }
def BitsJoinsUptoSaid : Prop := bitsJoinsUptoRow.holds Try.pinned (OpenSpec.upto bitsJoinsSpec)

end Rows
end Go.Proofs.Ythcmmmccbpfflaa
