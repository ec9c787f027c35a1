/-
  NARROWER THAN 'FOR EVERY INPUT', by the rows' own cells (each row's printed sentence says how): FsTells: laid · FsPlays: laid · FsReads: laid · FsGood: laid · FsEither: laid · TableKeeps: laid · TableParts: laid · TableProjects: laid · TableUndone: laid.
  DERIVED. THE GIVEN ROWS OF THIS SEAT. 9 by the template 'for every input the law returns true; each argument reads behind the call as it read before'; 0 by the template 'total and deterministic' (their statements: YtolhifnlahllnaaDoorTotals.lean).
  GIVEN WITH THE SEED: the statements are not yours to turn. If you find one false, say at which input.
  Laid BY PROGRAM, IN A SANDBOX (cutbox-rows.mjs): the forced cells as the released guide's own fill.sh prints them over the translation a7ebdb29a3eb380b… (all of the seat's roots in one cut). By AI agents, Wed Nov 11 2026. No macro, syntax, notation, axiom, sorry.
-/
import Derived.Test.YtolhifnlahllnaaDoorChecked
import GoSem.PinnedTables
import GoSem.Claim
import GoSem.ClaimJoined
import GoSem.ClaimMapViews
import Derived.JoinedTies
import Derived.KernelRfl
namespace Go.Proofs.YtolhifnlahllnaaDoor
/- THE CELL 'sum', in the pinned program and in every row, IS THE sha256 OF THE DUMP (.gsa) THAT YtolhifnlahllnaaDoorProg.lean LOADS. Nothing in Lean hashes anything: it is a label: what it is worth is what the hold of that sum in a sandbox is worth. -/
noncomputable def Tryd.pinned : Pinned := { name := "ytolhifnlahllnaadoor", sum := "a7ebdb29a3eb380be75c0321ca270f79db4f72d05e9a304225b6c7431cb8d5d9", checked := Tryd.checked }
namespace Rows
def none {H : Type} : Left H := { results := [], args := [] }

/- WHAT THE LISTED PACKAGE-LEVEL VARIABLES READ AS WHEN THE CALL BEGINS. Each datum BY PROGRAM (the guide's laid-datum.mjs) off the statement by which the dump's own 'gosem.cut.vars' lays the variable. In a bare row this is a premise. The card (YtolhifnlahllnaaDoorCards.lean) ties it to the program's text. -/
def laid_unicode_utf8_acceptRanges {H : Type} : DataW H := .agg [.agg [.lit (.int .u8 128), .lit (.int .u8 191)], .agg [.lit (.int .u8 160), .lit (.int .u8 191)], .agg [.lit (.int .u8 128), .lit (.int .u8 159)], .agg [.lit (.int .u8 144), .lit (.int .u8 191)], .agg [.lit (.int .u8 128), .lit (.int .u8 143)], .agg [.lit (.int .u8 0), .lit (.int .u8 0)], .agg [.lit (.int .u8 0), .lit (.int .u8 0)], .agg [.lit (.int .u8 0), .lit (.int .u8 0)], .agg [.lit (.int .u8 0), .lit (.int .u8 0)], .agg [.lit (.int .u8 0), .lit (.int .u8 0)], .agg [.lit (.int .u8 0), .lit (.int .u8 0)], .agg [.lit (.int .u8 0), .lit (.int .u8 0)], .agg [.lit (.int .u8 0), .lit (.int .u8 0)], .agg [.lit (.int .u8 0), .lit (.int .u8 0)], .agg [.lit (.int .u8 0), .lit (.int .u8 0)], .agg [.lit (.int .u8 0), .lit (.int .u8 0)]]
/-- One of Go's own tables, pinned by name: the form's constant. -/
def laid_unicode_utf8_first : DataW Unit := Go.Pinned.utf8First

/-- 'hypostylelaw.FsTells': WHATEVER THE INPUT: true; the input reads as it did. -/
def fsTellsSpec : ChangeSpec := { name := "fsTells", fn := fun _ => fun
  | [d1, d2, d3, d4] => { results := [.lit (.bool true)], args := [d1, d2, d3, d4] }
  | _ => none }
def fsTellsRow : OpenClaim := { program := "ytolhifnlahllnaadoor", sum := "a7ebdb29a3eb380be75c0321ca270f79db4f72d05e9a304225b6c7431cb8d5d9", func := "hypostyle/hypostylelaw.FsTells", spec := "fsTells", inPlace := ["internal/bytealg.IndexByteString", "internal/bytealg.IndexString", "slices.overlaps[hypostyle/api.Entry]"], unfollowed := true, recurses := true, named := ["unicode/utf8.first", "unicode/utf8.acceptRanges", "internal/bytealg.MaxLen"], apart := false, laid := [("unicode/utf8.acceptRanges", laid_unicode_utf8_acceptRanges), ("unicode/utf8.first", laid_unicode_utf8_first)] }
def FsTellsSaid : Prop := fsTellsRow.holds Tryd.pinned (OpenSpec.ofChange fsTellsSpec)

/-- ITS FALSE NEIGHBOUR: 'it returns false'. Refute it at one input. -/
def fsTellsWrong : ChangeSpec := { name := "fsTells", fn := fun _ => fun
  | [d1, d2, d3, d4] => { results := [.lit (.bool false)], args := [d1, d2, d3, d4] }
  | _ => none }
def FsTellsWrongFalsely : Prop := fsTellsRow.holds Tryd.pinned (OpenSpec.ofChange fsTellsWrong)

/-- 'hypostylelaw.FsPlays': WHATEVER THE INPUT: true; the input reads as it did. -/
def fsPlaysSpec : ChangeSpec := { name := "fsPlays", fn := fun _ => fun
  | [d1, d2, d3] => { results := [.lit (.bool true)], args := [d1, d2, d3] }
  | _ => none }
def fsPlaysRow : OpenClaim := { program := "ytolhifnlahllnaadoor", sum := "a7ebdb29a3eb380be75c0321ca270f79db4f72d05e9a304225b6c7431cb8d5d9", func := "hypostyle/hypostylelaw.FsPlays", spec := "fsPlays", inPlace := ["internal/bytealg.IndexByteString", "internal/bytealg.IndexString", "slices.overlaps[hypostyle/api.Entry]"], unfollowed := true, recurses := true, named := ["unicode/utf8.first", "unicode/utf8.acceptRanges", "internal/bytealg.MaxLen"], apart := false, laid := [("unicode/utf8.acceptRanges", laid_unicode_utf8_acceptRanges), ("unicode/utf8.first", laid_unicode_utf8_first)] }
def FsPlaysSaid : Prop := fsPlaysRow.holds Tryd.pinned (OpenSpec.ofChange fsPlaysSpec)

/-- ITS FALSE NEIGHBOUR: 'it returns false'. Refute it at one input. -/
def fsPlaysWrong : ChangeSpec := { name := "fsPlays", fn := fun _ => fun
  | [d1, d2, d3] => { results := [.lit (.bool false)], args := [d1, d2, d3] }
  | _ => none }
def FsPlaysWrongFalsely : Prop := fsPlaysRow.holds Tryd.pinned (OpenSpec.ofChange fsPlaysWrong)

/-- 'hypostylelaw.FsReads': WHATEVER THE INPUT: true; the input reads as it did. -/
def fsReadsSpec : ChangeSpec := { name := "fsReads", fn := fun _ => fun
  | [d1, d2, d3, d4] => { results := [.lit (.bool true)], args := [d1, d2, d3, d4] }
  | _ => none }
def fsReadsRow : OpenClaim := { program := "ytolhifnlahllnaadoor", sum := "a7ebdb29a3eb380be75c0321ca270f79db4f72d05e9a304225b6c7431cb8d5d9", func := "hypostyle/hypostylelaw.FsReads", spec := "fsReads", inPlace := ["internal/bytealg.IndexByteString", "internal/bytealg.IndexString", "slices.overlaps[hypostyle/api.Entry]"], unfollowed := true, recurses := true, named := ["unicode/utf8.first", "unicode/utf8.acceptRanges", "internal/bytealg.MaxLen"], apart := false, laid := [("unicode/utf8.acceptRanges", laid_unicode_utf8_acceptRanges), ("unicode/utf8.first", laid_unicode_utf8_first)] }
def FsReadsSaid : Prop := fsReadsRow.holds Tryd.pinned (OpenSpec.ofChange fsReadsSpec)

/-- ITS FALSE NEIGHBOUR: 'it returns false'. Refute it at one input. -/
def fsReadsWrong : ChangeSpec := { name := "fsReads", fn := fun _ => fun
  | [d1, d2, d3, d4] => { results := [.lit (.bool false)], args := [d1, d2, d3, d4] }
  | _ => none }
def FsReadsWrongFalsely : Prop := fsReadsRow.holds Tryd.pinned (OpenSpec.ofChange fsReadsWrong)

/-- 'hypostylelaw.FsGood': WHATEVER THE INPUT: true; the input reads as it did. -/
def fsGoodSpec : ChangeSpec := { name := "fsGood", fn := fun _ => fun
  | [d1, d2, d3, d4] => { results := [.lit (.bool true)], args := [d1, d2, d3, d4] }
  | _ => none }
def fsGoodRow : OpenClaim := { program := "ytolhifnlahllnaadoor", sum := "a7ebdb29a3eb380be75c0321ca270f79db4f72d05e9a304225b6c7431cb8d5d9", func := "hypostyle/hypostylelaw.FsGood", spec := "fsGood", inPlace := ["internal/bytealg.IndexByteString", "internal/bytealg.IndexString", "slices.overlaps[hypostyle/api.Entry]"], unfollowed := true, recurses := true, named := ["unicode/utf8.first", "unicode/utf8.acceptRanges", "internal/bytealg.MaxLen"], apart := false, laid := [("unicode/utf8.acceptRanges", laid_unicode_utf8_acceptRanges), ("unicode/utf8.first", laid_unicode_utf8_first)] }
def FsGoodSaid : Prop := fsGoodRow.holds Tryd.pinned (OpenSpec.ofChange fsGoodSpec)

/-- ITS FALSE NEIGHBOUR: 'it returns false'. Refute it at one input. -/
def fsGoodWrong : ChangeSpec := { name := "fsGood", fn := fun _ => fun
  | [d1, d2, d3, d4] => { results := [.lit (.bool false)], args := [d1, d2, d3, d4] }
  | _ => none }
def FsGoodWrongFalsely : Prop := fsGoodRow.holds Tryd.pinned (OpenSpec.ofChange fsGoodWrong)

/-- 'hypostylelaw.FsEither': WHATEVER THE INPUT: true; the input reads as it did. -/
def fsEitherSpec : ChangeSpec := { name := "fsEither", fn := fun _ => fun
  | [d1, d2, d3] => { results := [.lit (.bool true)], args := [d1, d2, d3] }
  | _ => none }
def fsEitherRow : OpenClaim := { program := "ytolhifnlahllnaadoor", sum := "a7ebdb29a3eb380be75c0321ca270f79db4f72d05e9a304225b6c7431cb8d5d9", func := "hypostyle/hypostylelaw.FsEither", spec := "fsEither", inPlace := ["internal/bytealg.IndexByteString", "internal/bytealg.IndexString", "slices.overlaps[hypostyle/api.Entry]"], unfollowed := true, recurses := true, named := ["unicode/utf8.first", "unicode/utf8.acceptRanges", "internal/bytealg.MaxLen"], apart := false, laid := [("unicode/utf8.acceptRanges", laid_unicode_utf8_acceptRanges), ("unicode/utf8.first", laid_unicode_utf8_first)] }
def FsEitherSaid : Prop := fsEitherRow.holds Tryd.pinned (OpenSpec.ofChange fsEitherSpec)

/-- ITS FALSE NEIGHBOUR: 'it returns false'. Refute it at one input. -/
def fsEitherWrong : ChangeSpec := { name := "fsEither", fn := fun _ => fun
  | [d1, d2, d3] => { results := [.lit (.bool false)], args := [d1, d2, d3] }
  | _ => none }
def FsEitherWrongFalsely : Prop := fsEitherRow.holds Tryd.pinned (OpenSpec.ofChange fsEitherWrong)

/-- 'hypostylelaw.TableKeeps': WHATEVER THE INPUT: true; the input reads as it did. -/
def tableKeepsSpec : ChangeSpec := { name := "tableKeeps", fn := fun _ => fun
  | [d1, d2, d3] => { results := [.lit (.bool true)], args := [d1, d2, d3] }
  | _ => none }
def tableKeepsRow : OpenClaim := { program := "ytolhifnlahllnaadoor", sum := "a7ebdb29a3eb380be75c0321ca270f79db4f72d05e9a304225b6c7431cb8d5d9", func := "hypostyle/hypostylelaw.TableKeeps", spec := "tableKeeps", inPlace := ["internal/bytealg.abigen_runtime_cmpstring", "internal/bytealg.IndexByteString", "internal/bytealg.IndexString"], unfollowed := true, recurses := true, named := ["unicode/utf8.first", "unicode/utf8.acceptRanges", "internal/bytealg.MaxLen"], apart := false, laid := [("unicode/utf8.acceptRanges", laid_unicode_utf8_acceptRanges), ("unicode/utf8.first", laid_unicode_utf8_first)] }
def TableKeepsSaid : Prop := tableKeepsRow.holds Tryd.pinned (OpenSpec.ofChange tableKeepsSpec)

/-- ITS FALSE NEIGHBOUR: 'it returns false'. Refute it at one input. -/
def tableKeepsWrong : ChangeSpec := { name := "tableKeeps", fn := fun _ => fun
  | [d1, d2, d3] => { results := [.lit (.bool false)], args := [d1, d2, d3] }
  | _ => none }
def TableKeepsWrongFalsely : Prop := tableKeepsRow.holds Tryd.pinned (OpenSpec.ofChange tableKeepsWrong)

/-- 'hypostylelaw.TableParts': WHATEVER THE INPUT: true; the input reads as it did. -/
def tablePartsSpec : ChangeSpec := { name := "tableParts", fn := fun _ => fun
  | [d1, d2, d3] => { results := [.lit (.bool true)], args := [d1, d2, d3] }
  | _ => none }
def tablePartsRow : OpenClaim := { program := "ytolhifnlahllnaadoor", sum := "a7ebdb29a3eb380be75c0321ca270f79db4f72d05e9a304225b6c7431cb8d5d9", func := "hypostyle/hypostylelaw.TableParts", spec := "tableParts", inPlace := ["internal/bytealg.IndexByteString", "internal/bytealg.IndexString", "internal/bytealg.abigen_runtime_cmpstring"], unfollowed := true, recurses := true, named := ["unicode/utf8.first", "unicode/utf8.acceptRanges", "internal/bytealg.MaxLen"], apart := false, laid := [("unicode/utf8.acceptRanges", laid_unicode_utf8_acceptRanges), ("unicode/utf8.first", laid_unicode_utf8_first)] }
def TablePartsSaid : Prop := tablePartsRow.holds Tryd.pinned (OpenSpec.ofChange tablePartsSpec)

/-- ITS FALSE NEIGHBOUR: 'it returns false'. Refute it at one input. -/
def tablePartsWrong : ChangeSpec := { name := "tableParts", fn := fun _ => fun
  | [d1, d2, d3] => { results := [.lit (.bool false)], args := [d1, d2, d3] }
  | _ => none }
def TablePartsWrongFalsely : Prop := tablePartsRow.holds Tryd.pinned (OpenSpec.ofChange tablePartsWrong)

/-- 'hypostylelaw.TableProjects': WHATEVER THE INPUT: true; the input reads as it did. -/
def tableProjectsSpec : ChangeSpec := { name := "tableProjects", fn := fun _ => fun
  | [d1, d2, d3, d4, d5] => { results := [.lit (.bool true)], args := [d1, d2, d3, d4, d5] }
  | _ => none }
def tableProjectsRow : OpenClaim := { program := "ytolhifnlahllnaadoor", sum := "a7ebdb29a3eb380be75c0321ca270f79db4f72d05e9a304225b6c7431cb8d5d9", func := "hypostyle/hypostylelaw.TableProjects", spec := "tableProjects", inPlace := ["internal/bytealg.IndexByteString", "internal/bytealg.IndexString", "internal/bytealg.abigen_runtime_cmpstring"], unfollowed := true, recurses := true, named := ["unicode/utf8.first", "unicode/utf8.acceptRanges", "internal/bytealg.MaxLen"], apart := false, laid := [("unicode/utf8.acceptRanges", laid_unicode_utf8_acceptRanges), ("unicode/utf8.first", laid_unicode_utf8_first)] }
def TableProjectsSaid : Prop := tableProjectsRow.holds Tryd.pinned (OpenSpec.ofChange tableProjectsSpec)

/-- ITS FALSE NEIGHBOUR: 'it returns false'. Refute it at one input. -/
def tableProjectsWrong : ChangeSpec := { name := "tableProjects", fn := fun _ => fun
  | [d1, d2, d3, d4, d5] => { results := [.lit (.bool false)], args := [d1, d2, d3, d4, d5] }
  | _ => none }
def TableProjectsWrongFalsely : Prop := tableProjectsRow.holds Tryd.pinned (OpenSpec.ofChange tableProjectsWrong)

/-- 'hypostylelaw.TableUndone': WHATEVER THE INPUT: true; the input reads as it did. -/
def tableUndoneSpec : ChangeSpec := { name := "tableUndone", fn := fun _ => fun
  | [d1, d2, d3, d4] => { results := [.lit (.bool true)], args := [d1, d2, d3, d4] }
  | _ => none }
def tableUndoneRow : OpenClaim := { program := "ytolhifnlahllnaadoor", sum := "a7ebdb29a3eb380be75c0321ca270f79db4f72d05e9a304225b6c7431cb8d5d9", func := "hypostyle/hypostylelaw.TableUndone", spec := "tableUndone", inPlace := ["internal/bytealg.IndexByteString", "internal/bytealg.IndexString", "internal/bytealg.abigen_runtime_cmpstring"], unfollowed := true, recurses := true, named := ["unicode/utf8.first", "unicode/utf8.acceptRanges", "internal/bytealg.MaxLen"], apart := false, laid := [("unicode/utf8.acceptRanges", laid_unicode_utf8_acceptRanges), ("unicode/utf8.first", laid_unicode_utf8_first)] }
def TableUndoneSaid : Prop := tableUndoneRow.holds Tryd.pinned (OpenSpec.ofChange tableUndoneSpec)

/-- ITS FALSE NEIGHBOUR: 'it returns false'. Refute it at one input. -/
def tableUndoneWrong : ChangeSpec := { name := "tableUndone", fn := fun _ => fun
  | [d1, d2, d3, d4] => { results := [.lit (.bool false)], args := [d1, d2, d3, d4] }
  | _ => none }
def TableUndoneWrongFalsely : Prop := tableUndoneRow.holds Tryd.pinned (OpenSpec.ofChange tableUndoneWrong)

/- THE SECOND FORM. 'bulk': how many values and letters a reading holds, each counted each time it is reached (what is shared counts as often as it is met; a slice's spare places count too). A statement '..UptoSaid' is the law's where the arguments, and the package variables that the reading takes, are together of bulk at most 1048576: NARROWER than '..Said'. Prove '..Said' where nothing that the law and all that it calls make is longer than what came in: it says more and counts as full. Else prove '..UptoSaid'. A law counts once. -/
mutual
def uptoBulk {H : Type} : DataW H → Nat
  | .lit (.string bytes) => bytes.length + 1
  | .lit _ => 1
  | .nil => 1
  | .ptr d => uptoBulk d + 1
  | .slice elems spare => uptoBulkAll elems + uptoBulkAll spare + 1
  | .agg parts => uptoBulkAll parts + 1
  | .iface _ d => uptoBulk d + 1
  | .map entries => uptoBulkEntries entries + 1
  | .held _ => 1
def uptoBulkAll {H : Type} : List (DataW H) → Nat
  | [] => 0
  | d :: r => uptoBulk d + uptoBulkAll r
def uptoBulkEntries {H : Type} : List (Lit × DataW H) → Nat
  | [] => 0
  | x :: r => uptoBulkEntry x + uptoBulkEntries r
def uptoBulkEntry {H : Type} : Lit × DataW H → Nat
  | (.string bytes, d) => bytes.length + uptoBulk d + 1
  | (_, d) => uptoBulk d + 1
 end
def uptoSmall : (H : Type) → List (DataW H) → Bool := fun _ ds => decide (uptoBulkAll ds ≤ 1048576)
def OpenSpec.upto (s : _root_.Go.ChangeSpec) : _root_.Go.OpenSpec := { _root_.Go.OpenSpec.ofChange s with cond := some uptoSmall }

/-- 'hypostylelaw.FsTells', WHERE WHAT IT READS IS OF BULK AT MOST 1048576: true; the input reads as it did. -/
def fsTellsUptoRow : OpenClaim := { program := "ytolhifnlahllnaadoor", sum := "a7ebdb29a3eb380be75c0321ca270f79db4f72d05e9a304225b6c7431cb8d5d9", func := "hypostyle/hypostylelaw.FsTells", spec := "fsTells", inPlace := ["internal/bytealg.IndexByteString", "internal/bytealg.IndexString", "slices.overlaps[hypostyle/api.Entry]"], unfollowed := true, recurses := true, named := ["unicode/utf8.first", "unicode/utf8.acceptRanges", "internal/bytealg.MaxLen"], apart := false, laid := [("unicode/utf8.acceptRanges", laid_unicode_utf8_acceptRanges), ("unicode/utf8.first", laid_unicode_utf8_first)], narrowed := true }
def FsTellsUptoSaid : Prop := fsTellsUptoRow.holds Tryd.pinned (OpenSpec.upto fsTellsSpec)

/-- 'hypostylelaw.FsPlays', WHERE WHAT IT READS IS OF BULK AT MOST 1048576: true; the input reads as it did. -/
def fsPlaysUptoRow : OpenClaim := { program := "ytolhifnlahllnaadoor", sum := "a7ebdb29a3eb380be75c0321ca270f79db4f72d05e9a304225b6c7431cb8d5d9", func := "hypostyle/hypostylelaw.FsPlays", spec := "fsPlays", inPlace := ["internal/bytealg.IndexByteString", "internal/bytealg.IndexString", "slices.overlaps[hypostyle/api.Entry]"], unfollowed := true, recurses := true, named := ["unicode/utf8.first", "unicode/utf8.acceptRanges", "internal/bytealg.MaxLen"], apart := false, laid := [("unicode/utf8.acceptRanges", laid_unicode_utf8_acceptRanges), ("unicode/utf8.first", laid_unicode_utf8_first)], narrowed := true }
def FsPlaysUptoSaid : Prop := fsPlaysUptoRow.holds Tryd.pinned (OpenSpec.upto fsPlaysSpec)

/-- 'hypostylelaw.FsReads', WHERE WHAT IT READS IS OF BULK AT MOST 1048576: true; the input reads as it did. -/
def fsReadsUptoRow : OpenClaim := { program := "ytolhifnlahllnaadoor", sum := "a7ebdb29a3eb380be75c0321ca270f79db4f72d05e9a304225b6c7431cb8d5d9", func := "hypostyle/hypostylelaw.FsReads", spec := "fsReads", inPlace := ["internal/bytealg.IndexByteString", "internal/bytealg.IndexString", "slices.overlaps[hypostyle/api.Entry]"], unfollowed := true, recurses := true, named := ["unicode/utf8.first", "unicode/utf8.acceptRanges", "internal/bytealg.MaxLen"], apart := false, laid := [("unicode/utf8.acceptRanges", laid_unicode_utf8_acceptRanges), ("unicode/utf8.first", laid_unicode_utf8_first)], narrowed := true }
def FsReadsUptoSaid : Prop := fsReadsUptoRow.holds Tryd.pinned (OpenSpec.upto fsReadsSpec)

/-- 'hypostylelaw.FsGood', WHERE WHAT IT READS IS OF BULK AT MOST 1048576: true; the input reads as it did. -/
def fsGoodUptoRow : OpenClaim := { program := "ytolhifnlahllnaadoor", sum := "a7ebdb29a3eb380be75c0321ca270f79db4f72d05e9a304225b6c7431cb8d5d9", func := "hypostyle/hypostylelaw.FsGood", spec := "fsGood", inPlace := ["internal/bytealg.IndexByteString", "internal/bytealg.IndexString", "slices.overlaps[hypostyle/api.Entry]"], unfollowed := true, recurses := true, named := ["unicode/utf8.first", "unicode/utf8.acceptRanges", "internal/bytealg.MaxLen"], apart := false, laid := [("unicode/utf8.acceptRanges", laid_unicode_utf8_acceptRanges), ("unicode/utf8.first", laid_unicode_utf8_first)], narrowed := true }
def FsGoodUptoSaid : Prop := fsGoodUptoRow.holds Tryd.pinned (OpenSpec.upto fsGoodSpec)

/-- 'hypostylelaw.FsEither', WHERE WHAT IT READS IS OF BULK AT MOST 1048576: true; the input reads as it did. -/
def fsEitherUptoRow : OpenClaim := { program := "ytolhifnlahllnaadoor", sum := "a7ebdb29a3eb380be75c0321ca270f79db4f72d05e9a304225b6c7431cb8d5d9", func := "hypostyle/hypostylelaw.FsEither", spec := "fsEither", inPlace := ["internal/bytealg.IndexByteString", "internal/bytealg.IndexString", "slices.overlaps[hypostyle/api.Entry]"], unfollowed := true, recurses := true, named := ["unicode/utf8.first", "unicode/utf8.acceptRanges", "internal/bytealg.MaxLen"], apart := false, laid := [("unicode/utf8.acceptRanges", laid_unicode_utf8_acceptRanges), ("unicode/utf8.first", laid_unicode_utf8_first)], narrowed := true }
def FsEitherUptoSaid : Prop := fsEitherUptoRow.holds Tryd.pinned (OpenSpec.upto fsEitherSpec)

/-- 'hypostylelaw.TableKeeps', WHERE WHAT IT READS IS OF BULK AT MOST 1048576: true; the input reads as it did. -/
def tableKeepsUptoRow : OpenClaim := { program := "ytolhifnlahllnaadoor", sum := "a7ebdb29a3eb380be75c0321ca270f79db4f72d05e9a304225b6c7431cb8d5d9", func := "hypostyle/hypostylelaw.TableKeeps", spec := "tableKeeps", inPlace := ["internal/bytealg.abigen_runtime_cmpstring", "internal/bytealg.IndexByteString", "internal/bytealg.IndexString"], unfollowed := true, recurses := true, named := ["unicode/utf8.first", "unicode/utf8.acceptRanges", "internal/bytealg.MaxLen"], apart := false, laid := [("unicode/utf8.acceptRanges", laid_unicode_utf8_acceptRanges), ("unicode/utf8.first", laid_unicode_utf8_first)], narrowed := true }
def TableKeepsUptoSaid : Prop := tableKeepsUptoRow.holds Tryd.pinned (OpenSpec.upto tableKeepsSpec)

/-- 'hypostylelaw.TableParts', WHERE WHAT IT READS IS OF BULK AT MOST 1048576: true; the input reads as it did. -/
def tablePartsUptoRow : OpenClaim := { program := "ytolhifnlahllnaadoor", sum := "a7ebdb29a3eb380be75c0321ca270f79db4f72d05e9a304225b6c7431cb8d5d9", func := "hypostyle/hypostylelaw.TableParts", spec := "tableParts", inPlace := ["internal/bytealg.IndexByteString", "internal/bytealg.IndexString", "internal/bytealg.abigen_runtime_cmpstring"], unfollowed := true, recurses := true, named := ["unicode/utf8.first", "unicode/utf8.acceptRanges", "internal/bytealg.MaxLen"], apart := false, laid := [("unicode/utf8.acceptRanges", laid_unicode_utf8_acceptRanges), ("unicode/utf8.first", laid_unicode_utf8_first)], narrowed := true }
def TablePartsUptoSaid : Prop := tablePartsUptoRow.holds Tryd.pinned (OpenSpec.upto tablePartsSpec)

/-- 'hypostylelaw.TableProjects', WHERE WHAT IT READS IS OF BULK AT MOST 1048576: true; the input reads as it did. -/
def tableProjectsUptoRow : OpenClaim := { program := "ytolhifnlahllnaadoor", sum := "a7ebdb29a3eb380be75c0321ca270f79db4f72d05e9a304225b6c7431cb8d5d9", func := "hypostyle/hypostylelaw.TableProjects", spec := "tableProjects", inPlace := ["internal/bytealg.IndexByteString", "internal/bytealg.IndexString", "internal/bytealg.abigen_runtime_cmpstring"], unfollowed := true, recurses := true, named := ["unicode/utf8.first", "unicode/utf8.acceptRanges", "internal/bytealg.MaxLen"], apart := false, laid := [("unicode/utf8.acceptRanges", laid_unicode_utf8_acceptRanges), ("unicode/utf8.first", laid_unicode_utf8_first)], narrowed := true }
def TableProjectsUptoSaid : Prop := tableProjectsUptoRow.holds Tryd.pinned (OpenSpec.upto tableProjectsSpec)

/-- 'hypostylelaw.TableUndone', WHERE WHAT IT READS IS OF BULK AT MOST 1048576: true; the input reads as it did. -/
def tableUndoneUptoRow : OpenClaim := { program := "ytolhifnlahllnaadoor", sum := "a7ebdb29a3eb380be75c0321ca270f79db4f72d05e9a304225b6c7431cb8d5d9", func := "hypostyle/hypostylelaw.TableUndone", spec := "tableUndone", inPlace := ["internal/bytealg.IndexByteString", "internal/bytealg.IndexString", "internal/bytealg.abigen_runtime_cmpstring"], unfollowed := true, recurses := true, named := ["unicode/utf8.first", "unicode/utf8.acceptRanges", "internal/bytealg.MaxLen"], apart := false, laid := [("unicode/utf8.acceptRanges", laid_unicode_utf8_acceptRanges), ("unicode/utf8.first", laid_unicode_utf8_first)], narrowed := true }
def TableUndoneUptoSaid : Prop := tableUndoneUptoRow.holds Tryd.pinned (OpenSpec.upto tableUndoneSpec)

end Rows
end Go.Proofs.YtolhifnlahllnaaDoor
