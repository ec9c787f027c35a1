/-
  DERIVED. GIVEN WITH THE SEED: THE CARDS: each row of YtikdmnedbfpkeaaDoorRows.lean that lists a variable, with what it lists TIED to the program's text (the seventh form; the later family's looks); each row that meets fmt, with fmt's text TOLD by the authors' own Lean function (tested against real Go, not proved from fmt's source: count such statements apart). THE CARD IS WHAT COUNTS. Prove the row's statement (the work); the ties are given (YtikdmnedbfpkeaaDoorTie.lean); close each card by the builder's one call (the guide's Derived/Test/ToyasCard.lean, 'card_holds'). Laid BY PROGRAM, IN A SANDBOX (cutbox-door.mjs). By AI agents, Wed Nov 11 2026. No macro, syntax, notation, axiom, sorry.
-/
import Derived.Test.YtikdmnedbfpkeaaDoorRows
import GoSem.ClaimSeven
namespace Go.Proofs.YtikdmnedbfpkeaaDoor
namespace Rows

/-- THE TIED CARD OF 'hypostylelaw.RankTells'. -/
def rankTellsCard : Claim7 := { stood := { row := rankTellsRow, standIns := [], harness := (true, "68a3bf55a835026d739115ce027c17c0ae6a09f06544320528c88019e504a22f"), looks := false }, kinds := [], alts := [], laidByText := true, laidKinds := [.data], laidTests := true, laidLooks := .later }
def RankTellsCardSaid : Prop := Claim7.holds Tryd.pinned (.plain (OpenSpec.ofChange rankTellsSpec)) rankTellsCard

/-- THE TIED CARD OF 'hypostylelaw.RankSelects'. -/
def rankSelectsCard : Claim7 := { stood := { row := rankSelectsRow, standIns := [], harness := (true, "68a3bf55a835026d739115ce027c17c0ae6a09f06544320528c88019e504a22f"), looks := false }, kinds := [], alts := [], laidByText := true, laidKinds := [.data], laidTests := true, laidLooks := .later }
def RankSelectsCardSaid : Prop := Claim7.holds Tryd.pinned (.plain (OpenSpec.ofChange rankSelectsSpec)) rankSelectsCard

/-- THE TIED CARD OF 'hypostylelaw.RankParts'. -/
def rankPartsCard : Claim7 := { stood := { row := rankPartsRow, standIns := [], harness := (true, "68a3bf55a835026d739115ce027c17c0ae6a09f06544320528c88019e504a22f"), looks := false }, kinds := [], alts := [], laidByText := true, laidKinds := [.data], laidTests := true, laidLooks := .later }
def RankPartsCardSaid : Prop := Claim7.holds Tryd.pinned (.plain (OpenSpec.ofChange rankPartsSpec)) rankPartsCard

/-- THE TIED CARD OF 'hypostylelaw.MarksBack'. -/
def marksBackCard : Claim7 := { stood := { row := marksBackRow, standIns := [], harness := (true, "68a3bf55a835026d739115ce027c17c0ae6a09f06544320528c88019e504a22f"), looks := false }, kinds := [], alts := [], laidByText := true, laidKinds := [.data], laidTests := true, laidLooks := .later }
def MarksBackCardSaid : Prop := Claim7.holds Tryd.pinned (.plain (OpenSpec.ofChange marksBackSpec)) marksBackCard

/-- THE TIED CARD OF 'hypostylelaw.MarksTell'. -/
def marksTellCard : Claim7 := { stood := { row := marksTellRow, standIns := [], harness := (true, "68a3bf55a835026d739115ce027c17c0ae6a09f06544320528c88019e504a22f"), looks := false }, kinds := [], alts := [], laidByText := true, laidKinds := [.data], laidTests := true, laidLooks := .later }
def MarksTellCardSaid : Prop := Claim7.holds Tryd.pinned (.plain (OpenSpec.ofChange marksTellSpec)) marksTellCard

/-- THE TIED CARD OF 'hypostylelaw.MarksBoole'. -/
def marksBooleCard : Claim7 := { stood := { row := marksBooleRow, standIns := [], harness := (true, "68a3bf55a835026d739115ce027c17c0ae6a09f06544320528c88019e504a22f"), looks := false }, kinds := [], alts := [], laidByText := true, laidKinds := [.data], laidTests := true, laidLooks := .later }
def MarksBooleCardSaid : Prop := Claim7.holds Tryd.pinned (.plain (OpenSpec.ofChange marksBooleSpec)) marksBooleCard

/-- THE SECOND FORM's CARD OF 'hypostylelaw.RankTells'. -/
def rankTellsUptoCard : Claim7 := { stood := { row := rankTellsUptoRow, standIns := [], harness := (true, "68a3bf55a835026d739115ce027c17c0ae6a09f06544320528c88019e504a22f"), looks := false }, kinds := [], alts := [], laidByText := true, laidKinds := [.data], laidTests := true, laidLooks := .later }
def RankTellsUptoCardSaid : Prop := Claim7.holds Tryd.pinned (.plain (OpenSpec.upto rankTellsSpec)) rankTellsUptoCard

/-- THE SECOND FORM's CARD OF 'hypostylelaw.RankSelects'. -/
def rankSelectsUptoCard : Claim7 := { stood := { row := rankSelectsUptoRow, standIns := [], harness := (true, "68a3bf55a835026d739115ce027c17c0ae6a09f06544320528c88019e504a22f"), looks := false }, kinds := [], alts := [], laidByText := true, laidKinds := [.data], laidTests := true, laidLooks := .later }
def RankSelectsUptoCardSaid : Prop := Claim7.holds Tryd.pinned (.plain (OpenSpec.upto rankSelectsSpec)) rankSelectsUptoCard

/-- THE SECOND FORM's CARD OF 'hypostylelaw.RankParts'. -/
def rankPartsUptoCard : Claim7 := { stood := { row := rankPartsUptoRow, standIns := [], harness := (true, "68a3bf55a835026d739115ce027c17c0ae6a09f06544320528c88019e504a22f"), looks := false }, kinds := [], alts := [], laidByText := true, laidKinds := [.data], laidTests := true, laidLooks := .later }
def RankPartsUptoCardSaid : Prop := Claim7.holds Tryd.pinned (.plain (OpenSpec.upto rankPartsSpec)) rankPartsUptoCard

/-- THE SECOND FORM's CARD OF 'hypostylelaw.MarksBack'. -/
def marksBackUptoCard : Claim7 := { stood := { row := marksBackUptoRow, standIns := [], harness := (true, "68a3bf55a835026d739115ce027c17c0ae6a09f06544320528c88019e504a22f"), looks := false }, kinds := [], alts := [], laidByText := true, laidKinds := [.data], laidTests := true, laidLooks := .later }
def MarksBackUptoCardSaid : Prop := Claim7.holds Tryd.pinned (.plain (OpenSpec.upto marksBackSpec)) marksBackUptoCard

/-- THE SECOND FORM's CARD OF 'hypostylelaw.MarksTell'. -/
def marksTellUptoCard : Claim7 := { stood := { row := marksTellUptoRow, standIns := [], harness := (true, "68a3bf55a835026d739115ce027c17c0ae6a09f06544320528c88019e504a22f"), looks := false }, kinds := [], alts := [], laidByText := true, laidKinds := [.data], laidTests := true, laidLooks := .later }
def MarksTellUptoCardSaid : Prop := Claim7.holds Tryd.pinned (.plain (OpenSpec.upto marksTellSpec)) marksTellUptoCard

/-- THE SECOND FORM's CARD OF 'hypostylelaw.MarksBoole'. -/
def marksBooleUptoCard : Claim7 := { stood := { row := marksBooleUptoRow, standIns := [], harness := (true, "68a3bf55a835026d739115ce027c17c0ae6a09f06544320528c88019e504a22f"), looks := false }, kinds := [], alts := [], laidByText := true, laidKinds := [.data], laidTests := true, laidLooks := .later }
def MarksBooleUptoCardSaid : Prop := Claim7.holds Tryd.pinned (.plain (OpenSpec.upto marksBooleSpec)) marksBooleUptoCard
end Rows
end Go.Proofs.YtikdmnedbfpkeaaDoor
