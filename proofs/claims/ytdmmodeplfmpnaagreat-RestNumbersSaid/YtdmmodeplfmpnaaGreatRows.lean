/-
  No cell of these rows narrows 'for every input' (looked for: loops, veiled, ifaces, maps, wideKeys, modest, calm, conditions, laid).
  DERIVED. THE GIVEN ROWS OF THIS SEAT. 9 by the template 'for every input the law returns true; each argument reads behind the call as it read before'; 0 by the template 'total and deterministic' (their statements: YtdmmodeplfmpnaaGreatTotals.lean).
  GIVEN WITH THE SEED: the statements are not yours to turn. If you find one false, say at which input.
  Laid BY PROGRAM, IN A SANDBOX (cutbox-rows.mjs): the forced cells as the released guide's own fill.sh prints them over the translation 8f5959b6fb2e2d97… (all of the seat's roots in one cut). By AI agents, Wed Nov 11 2026. No macro, syntax, notation, axiom, sorry.
-/
import Derived.Test.YtdmmodeplfmpnaaGreatChecked
import GoSem.Claim
import GoSem.ClaimJoined
import GoSem.ClaimMapViews
import Derived.JoinedTies
import Derived.KernelRfl
namespace Go.Proofs.YtdmmodeplfmpnaaGreat
/- THE CELL 'sum', in the pinned program and in every row, IS THE sha256 OF THE DUMP (.gsa) THAT YtdmmodeplfmpnaaGreatProg.lean LOADS. Nothing in Lean hashes anything: it is a label: what it is worth is what the hold of that sum in a sandbox is worth. -/
noncomputable def Tryz.pinned : Pinned := { name := "ytdmmodeplfmpnaagreat", sum := "8f5959b6fb2e2d974bc8acc003243a9e8a7fcaa6b71c02bc4bec489769e1c0fc", checked := Tryz.checked }
namespace Rows
def none {H : Type} : Left H := { results := [], args := [] }

/-- 'hypostylelaw.CodecNumbers': WHATEVER THE INPUT: true; the input reads as it did. -/
def codecNumbersSpec : ChangeSpec := { name := "codecNumbers", fn := fun _ => fun
  | [d1, d2] => { results := [.lit (.bool true)], args := [d1, d2] }
  | _ => none }
def codecNumbersRow : OpenClaim := { program := "ytdmmodeplfmpnaagreat", sum := "8f5959b6fb2e2d974bc8acc003243a9e8a7fcaa6b71c02bc4bec489769e1c0fc", func := "hypostyle/hypostylelaw.CodecNumbers", spec := "codecNumbers", inPlace := ["math/bits.Add64"], unfollowed := true, recurses := true, apart := false }
def CodecNumbersSaid : Prop := codecNumbersRow.holds Tryz.pinned (OpenSpec.ofChange codecNumbersSpec)

/-- ITS FALSE NEIGHBOUR: 'it returns false'. Refute it at one input. -/
def codecNumbersWrong : ChangeSpec := { name := "codecNumbers", fn := fun _ => fun
  | [d1, d2] => { results := [.lit (.bool false)], args := [d1, d2] }
  | _ => none }
def CodecNumbersWrongFalsely : Prop := codecNumbersRow.holds Tryz.pinned (OpenSpec.ofChange codecNumbersWrong)

/-- 'hypostylelaw.CodecReads': WHATEVER THE INPUT: true; the input reads as it did. -/
def codecReadsSpec : ChangeSpec := { name := "codecReads", fn := fun _ => fun
  | [d1, d2] => { results := [.lit (.bool true)], args := [d1, d2] }
  | _ => none }
def codecReadsRow : OpenClaim := { program := "ytdmmodeplfmpnaagreat", sum := "8f5959b6fb2e2d974bc8acc003243a9e8a7fcaa6b71c02bc4bec489769e1c0fc", func := "hypostyle/hypostylelaw.CodecReads", spec := "codecReads", inPlace := ["math/bits.Add64"], unfollowed := true, recurses := true, apart := false }
def CodecReadsSaid : Prop := codecReadsRow.holds Tryz.pinned (OpenSpec.ofChange codecReadsSpec)

/-- ITS FALSE NEIGHBOUR: 'it returns false'. Refute it at one input. -/
def codecReadsWrong : ChangeSpec := { name := "codecReads", fn := fun _ => fun
  | [d1, d2] => { results := [.lit (.bool false)], args := [d1, d2] }
  | _ => none }
def CodecReadsWrongFalsely : Prop := codecReadsRow.holds Tryz.pinned (OpenSpec.ofChange codecReadsWrong)

/-- 'hypostylelaw.CodecBack': WHATEVER THE INPUT: true; the input reads as it did. -/
def codecBackSpec : ChangeSpec := { name := "codecBack", fn := fun _ => fun
  | [d1, d2] => { results := [.lit (.bool true)], args := [d1, d2] }
  | _ => none }
def codecBackRow : OpenClaim := { program := "ytdmmodeplfmpnaagreat", sum := "8f5959b6fb2e2d974bc8acc003243a9e8a7fcaa6b71c02bc4bec489769e1c0fc", func := "hypostyle/hypostylelaw.CodecBack", spec := "codecBack", inPlace := ["math/bits.Add64"], unfollowed := true, recurses := true, apart := false }
def CodecBackSaid : Prop := codecBackRow.holds Tryz.pinned (OpenSpec.ofChange codecBackSpec)

/-- ITS FALSE NEIGHBOUR: 'it returns false'. Refute it at one input. -/
def codecBackWrong : ChangeSpec := { name := "codecBack", fn := fun _ => fun
  | [d1, d2] => { results := [.lit (.bool false)], args := [d1, d2] }
  | _ => none }
def CodecBackWrongFalsely : Prop := codecBackRow.holds Tryz.pinned (OpenSpec.ofChange codecBackWrong)

/-- 'hypostylelaw.RestNumbers': WHATEVER THE INPUT: true; the input reads as it did. -/
def restNumbersSpec : ChangeSpec := { name := "restNumbers", fn := fun _ => fun
  | [d] => { results := [.lit (.bool true)], args := [d] }
  | _ => none }
def restNumbersRow : OpenClaim := { program := "ytdmmodeplfmpnaagreat", sum := "8f5959b6fb2e2d974bc8acc003243a9e8a7fcaa6b71c02bc4bec489769e1c0fc", func := "hypostyle/hypostylelaw.RestNumbers", spec := "restNumbers", inPlace := ["math/bits.Add64"], unfollowed := true, recurses := true, apart := false }
def RestNumbersSaid : Prop := restNumbersRow.holds Tryz.pinned (OpenSpec.ofChange restNumbersSpec)

/-- ITS FALSE NEIGHBOUR: 'it returns false'. Refute it at one input. -/
def restNumbersWrong : ChangeSpec := { name := "restNumbers", fn := fun _ => fun
  | [d] => { results := [.lit (.bool false)], args := [d] }
  | _ => none }
def RestNumbersWrongFalsely : Prop := restNumbersRow.holds Tryz.pinned (OpenSpec.ofChange restNumbersWrong)

/-- 'hypostylelaw.CodecTexts': WHATEVER THE INPUT: true; the input reads as it did. -/
def codecTextsSpec : ChangeSpec := { name := "codecTexts", fn := fun _ => fun
  | [d1, d2] => { results := [.lit (.bool true)], args := [d1, d2] }
  | _ => none }
def codecTextsRow : OpenClaim := { program := "ytdmmodeplfmpnaagreat", sum := "8f5959b6fb2e2d974bc8acc003243a9e8a7fcaa6b71c02bc4bec489769e1c0fc", func := "hypostyle/hypostylelaw.CodecTexts", spec := "codecTexts", inPlace := ["math/bits.Add64"], unfollowed := true, recurses := true, apart := false }
def CodecTextsSaid : Prop := codecTextsRow.holds Tryz.pinned (OpenSpec.ofChange codecTextsSpec)

/-- ITS FALSE NEIGHBOUR: 'it returns false'. Refute it at one input. -/
def codecTextsWrong : ChangeSpec := { name := "codecTexts", fn := fun _ => fun
  | [d1, d2] => { results := [.lit (.bool false)], args := [d1, d2] }
  | _ => none }
def CodecTextsWrongFalsely : Prop := codecTextsRow.holds Tryz.pinned (OpenSpec.ofChange codecTextsWrong)

/-- 'hypostylelaw.CodecTextsBack': WHATEVER THE INPUT: true; the input reads as it did. -/
def codecTextsBackSpec : ChangeSpec := { name := "codecTextsBack", fn := fun _ => fun
  | [d1, d2] => { results := [.lit (.bool true)], args := [d1, d2] }
  | _ => none }
def codecTextsBackRow : OpenClaim := { program := "ytdmmodeplfmpnaagreat", sum := "8f5959b6fb2e2d974bc8acc003243a9e8a7fcaa6b71c02bc4bec489769e1c0fc", func := "hypostyle/hypostylelaw.CodecTextsBack", spec := "codecTextsBack", inPlace := ["math/bits.Add64"], unfollowed := true, recurses := true, apart := false }
def CodecTextsBackSaid : Prop := codecTextsBackRow.holds Tryz.pinned (OpenSpec.ofChange codecTextsBackSpec)

/-- ITS FALSE NEIGHBOUR: 'it returns false'. Refute it at one input. -/
def codecTextsBackWrong : ChangeSpec := { name := "codecTextsBack", fn := fun _ => fun
  | [d1, d2] => { results := [.lit (.bool false)], args := [d1, d2] }
  | _ => none }
def CodecTextsBackWrongFalsely : Prop := codecTextsBackRow.holds Tryz.pinned (OpenSpec.ofChange codecTextsBackWrong)

/-- 'hypostylelaw.CodecLeast': WHATEVER THE INPUT: true; the input reads as it did. -/
def codecLeastSpec : ChangeSpec := { name := "codecLeast", fn := fun _ => fun
  | [d1, d2] => { results := [.lit (.bool true)], args := [d1, d2] }
  | _ => none }
def codecLeastRow : OpenClaim := { program := "ytdmmodeplfmpnaagreat", sum := "8f5959b6fb2e2d974bc8acc003243a9e8a7fcaa6b71c02bc4bec489769e1c0fc", func := "hypostyle/hypostylelaw.CodecLeast", spec := "codecLeast", inPlace := ["math/bits.Add64"], unfollowed := true, recurses := true, apart := false }
def CodecLeastSaid : Prop := codecLeastRow.holds Tryz.pinned (OpenSpec.ofChange codecLeastSpec)

/-- ITS FALSE NEIGHBOUR: 'it returns false'. Refute it at one input. -/
def codecLeastWrong : ChangeSpec := { name := "codecLeast", fn := fun _ => fun
  | [d1, d2] => { results := [.lit (.bool false)], args := [d1, d2] }
  | _ => none }
def CodecLeastWrongFalsely : Prop := codecLeastRow.holds Tryz.pinned (OpenSpec.ofChange codecLeastWrong)

/-- 'hypostylelaw.CodecBooks': WHATEVER THE INPUT: true; the input reads as it did. -/
def codecBooksSpec : ChangeSpec := { name := "codecBooks", fn := fun _ => fun
  | [d] => { results := [.lit (.bool true)], args := [d] }
  | _ => none }
def codecBooksRow : OpenClaim := { program := "ytdmmodeplfmpnaagreat", sum := "8f5959b6fb2e2d974bc8acc003243a9e8a7fcaa6b71c02bc4bec489769e1c0fc", func := "hypostyle/hypostylelaw.CodecBooks", spec := "codecBooks", inPlace := ["math/bits.Add64"], unfollowed := true, recurses := true, apart := false }
def CodecBooksSaid : Prop := codecBooksRow.holds Tryz.pinned (OpenSpec.ofChange codecBooksSpec)

/-- ITS FALSE NEIGHBOUR: 'it returns false'. Refute it at one input. -/
def codecBooksWrong : ChangeSpec := { name := "codecBooks", fn := fun _ => fun
  | [d] => { results := [.lit (.bool false)], args := [d] }
  | _ => none }
def CodecBooksWrongFalsely : Prop := codecBooksRow.holds Tryz.pinned (OpenSpec.ofChange codecBooksWrong)

/-- 'hypostylelaw.RestTexts': WHATEVER THE INPUT: true; the input reads as it did. -/
def restTextsSpec : ChangeSpec := { name := "restTexts", fn := fun _ => fun
  | [d] => { results := [.lit (.bool true)], args := [d] }
  | _ => none }
def restTextsRow : OpenClaim := { program := "ytdmmodeplfmpnaagreat", sum := "8f5959b6fb2e2d974bc8acc003243a9e8a7fcaa6b71c02bc4bec489769e1c0fc", func := "hypostyle/hypostylelaw.RestTexts", spec := "restTexts", inPlace := ["math/bits.Add64"], unfollowed := true, recurses := true, apart := false }
def RestTextsSaid : Prop := restTextsRow.holds Tryz.pinned (OpenSpec.ofChange restTextsSpec)

/-- ITS FALSE NEIGHBOUR: 'it returns false'. Refute it at one input. -/
def restTextsWrong : ChangeSpec := { name := "restTexts", fn := fun _ => fun
  | [d] => { results := [.lit (.bool false)], args := [d] }
  | _ => none }
def RestTextsWrongFalsely : Prop := restTextsRow.holds Tryz.pinned (OpenSpec.ofChange restTextsWrong)

/- THE SECOND FORM. 'bulk': how many values and letters a reading holds, each counted each time it is reached (what is shared counts as often as it is met; a slice's spare places count too). A statement '..UptoSaid' is the law's where the arguments, and the package variables that the reading takes, are together of bulk at most 1048576: NARROWER than '..Said'. Prove '..Said' where nothing that the law and all that it calls make is longer than what came in: it says more and counts as full. Else prove '..UptoSaid'. A law counts once. -/
mutual
def uptoBulk {H : Type} : DataW H → Nat
  | .lit (.string bytes) => bytes.length + 1
  | .lit _ => 1
  | .nil => 1
  | .ptr d => uptoBulk d + 1
  | .slice elems spare => uptoBulkAll elems + uptoBulkAll spare + 1
  | .agg parts => uptoBulkAll parts + 1
  | .iface _ d => uptoBulk d + 1
  | .map entries => uptoBulkEntries entries + 1
  | .held _ => 1
def uptoBulkAll {H : Type} : List (DataW H) → Nat
  | [] => 0
  | d :: r => uptoBulk d + uptoBulkAll r
def uptoBulkEntries {H : Type} : List (Lit × DataW H) → Nat
  | [] => 0
  | x :: r => uptoBulkEntry x + uptoBulkEntries r
def uptoBulkEntry {H : Type} : Lit × DataW H → Nat
  | (.string bytes, d) => bytes.length + uptoBulk d + 1
  | (_, d) => uptoBulk d + 1
 end
def uptoSmall : (H : Type) → List (DataW H) → Bool := fun _ ds => decide (uptoBulkAll ds ≤ 1048576)
def OpenSpec.upto (s : _root_.Go.ChangeSpec) : _root_.Go.OpenSpec := { _root_.Go.OpenSpec.ofChange s with cond := some uptoSmall }

/-- 'hypostylelaw.CodecNumbers', WHERE WHAT IT READS IS OF BULK AT MOST 1048576: true; the input reads as it did. -/
def codecNumbersUptoRow : OpenClaim := { program := "ytdmmodeplfmpnaagreat", sum := "8f5959b6fb2e2d974bc8acc003243a9e8a7fcaa6b71c02bc4bec489769e1c0fc", func := "hypostyle/hypostylelaw.CodecNumbers", spec := "codecNumbers", inPlace := ["math/bits.Add64"], unfollowed := true, recurses := true, apart := false, narrowed := true }
def CodecNumbersUptoSaid : Prop := codecNumbersUptoRow.holds Tryz.pinned (OpenSpec.upto codecNumbersSpec)

/-- 'hypostylelaw.CodecReads', WHERE WHAT IT READS IS OF BULK AT MOST 1048576: true; the input reads as it did. -/
def codecReadsUptoRow : OpenClaim := { program := "ytdmmodeplfmpnaagreat", sum := "8f5959b6fb2e2d974bc8acc003243a9e8a7fcaa6b71c02bc4bec489769e1c0fc", func := "hypostyle/hypostylelaw.CodecReads", spec := "codecReads", inPlace := ["math/bits.Add64"], unfollowed := true, recurses := true, apart := false, narrowed := true }
def CodecReadsUptoSaid : Prop := codecReadsUptoRow.holds Tryz.pinned (OpenSpec.upto codecReadsSpec)

/-- 'hypostylelaw.CodecBack', WHERE WHAT IT READS IS OF BULK AT MOST 1048576: true; the input reads as it did. -/
def codecBackUptoRow : OpenClaim := { program := "ytdmmodeplfmpnaagreat", sum := "8f5959b6fb2e2d974bc8acc003243a9e8a7fcaa6b71c02bc4bec489769e1c0fc", func := "hypostyle/hypostylelaw.CodecBack", spec := "codecBack", inPlace := ["math/bits.Add64"], unfollowed := true, recurses := true, apart := false, narrowed := true }
def CodecBackUptoSaid : Prop := codecBackUptoRow.holds Tryz.pinned (OpenSpec.upto codecBackSpec)

/-- 'hypostylelaw.RestNumbers', WHERE WHAT IT READS IS OF BULK AT MOST 1048576: true; the input reads as it did. -/
def restNumbersUptoRow : OpenClaim := { program := "ytdmmodeplfmpnaagreat", sum := "8f5959b6fb2e2d974bc8acc003243a9e8a7fcaa6b71c02bc4bec489769e1c0fc", func := "hypostyle/hypostylelaw.RestNumbers", spec := "restNumbers", inPlace := ["math/bits.Add64"], unfollowed := true, recurses := true, apart := false, narrowed := true }
def RestNumbersUptoSaid : Prop := restNumbersUptoRow.holds Tryz.pinned (OpenSpec.upto restNumbersSpec)

/-- 'hypostylelaw.CodecTexts', WHERE WHAT IT READS IS OF BULK AT MOST 1048576: true; the input reads as it did. -/
def codecTextsUptoRow : OpenClaim := { program := "ytdmmodeplfmpnaagreat", sum := "8f5959b6fb2e2d974bc8acc003243a9e8a7fcaa6b71c02bc4bec489769e1c0fc", func := "hypostyle/hypostylelaw.CodecTexts", spec := "codecTexts", inPlace := ["math/bits.Add64"], unfollowed := true, recurses := true, apart := false, narrowed := true }
def CodecTextsUptoSaid : Prop := codecTextsUptoRow.holds Tryz.pinned (OpenSpec.upto codecTextsSpec)

/-- 'hypostylelaw.CodecTextsBack', WHERE WHAT IT READS IS OF BULK AT MOST 1048576: true; the input reads as it did. -/
def codecTextsBackUptoRow : OpenClaim := { program := "ytdmmodeplfmpnaagreat", sum := "8f5959b6fb2e2d974bc8acc003243a9e8a7fcaa6b71c02bc4bec489769e1c0fc", func := "hypostyle/hypostylelaw.CodecTextsBack", spec := "codecTextsBack", inPlace := ["math/bits.Add64"], unfollowed := true, recurses := true, apart := false, narrowed := true }
def CodecTextsBackUptoSaid : Prop := codecTextsBackUptoRow.holds Tryz.pinned (OpenSpec.upto codecTextsBackSpec)

/-- 'hypostylelaw.CodecLeast', WHERE WHAT IT READS IS OF BULK AT MOST 1048576: true; the input reads as it did. -/
def codecLeastUptoRow : OpenClaim := { program := "ytdmmodeplfmpnaagreat", sum := "8f5959b6fb2e2d974bc8acc003243a9e8a7fcaa6b71c02bc4bec489769e1c0fc", func := "hypostyle/hypostylelaw.CodecLeast", spec := "codecLeast", inPlace := ["math/bits.Add64"], unfollowed := true, recurses := true, apart := false, narrowed := true }
def CodecLeastUptoSaid : Prop := codecLeastUptoRow.holds Tryz.pinned (OpenSpec.upto codecLeastSpec)

/-- 'hypostylelaw.CodecBooks', WHERE WHAT IT READS IS OF BULK AT MOST 1048576: true; the input reads as it did. -/
def codecBooksUptoRow : OpenClaim := { program := "ytdmmodeplfmpnaagreat", sum := "8f5959b6fb2e2d974bc8acc003243a9e8a7fcaa6b71c02bc4bec489769e1c0fc", func := "hypostyle/hypostylelaw.CodecBooks", spec := "codecBooks", inPlace := ["math/bits.Add64"], unfollowed := true, recurses := true, apart := false, narrowed := true }
def CodecBooksUptoSaid : Prop := codecBooksUptoRow.holds Tryz.pinned (OpenSpec.upto codecBooksSpec)

/-- 'hypostylelaw.RestTexts', WHERE WHAT IT READS IS OF BULK AT MOST 1048576: true; the input reads as it did. -/
def restTextsUptoRow : OpenClaim := { program := "ytdmmodeplfmpnaagreat", sum := "8f5959b6fb2e2d974bc8acc003243a9e8a7fcaa6b71c02bc4bec489769e1c0fc", func := "hypostyle/hypostylelaw.RestTexts", spec := "restTexts", inPlace := ["math/bits.Add64"], unfollowed := true, recurses := true, apart := false, narrowed := true }
def RestTextsUptoSaid : Prop := restTextsUptoRow.holds Tryz.pinned (OpenSpec.upto restTextsSpec)

end Rows
end Go.Proofs.YtdmmodeplfmpnaaGreat
