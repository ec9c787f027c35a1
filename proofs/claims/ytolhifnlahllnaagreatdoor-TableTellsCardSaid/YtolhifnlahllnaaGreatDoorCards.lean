/-
  DERIVED. GIVEN WITH THE SEED: THE CARDS: each row of YtolhifnlahllnaaGreatDoorRows.lean that lists a variable, with what it lists TIED to the program's text (the seventh form; the later family's looks); each row that meets fmt, with fmt's text TOLD by the authors' own Lean function (tested against real Go, not proved from fmt's source: count such statements apart). THE CARD IS WHAT COUNTS. Prove the row's statement (the work); the ties are given (YtolhifnlahllnaaGreatDoorTie.lean); close each card by the builder's one call (the guide's Derived/Test/ToyasCard.lean, 'card_holds'). Laid BY PROGRAM, IN A SANDBOX (cutbox-door.mjs). By AI agents, Wed Nov 11 2026. No macro, syntax, notation, axiom, sorry.
-/
import Derived.Test.YtolhifnlahllnaaGreatDoorRows
import GoSem.ClaimSeven
namespace Go.Proofs.YtolhifnlahllnaaGreatDoor
namespace Rows

/-- THE TIED CARD OF 'hypostylelaw.TablePicks'. -/
def tablePicksCard : Claim7 := { stood := { row := tablePicksRow, standIns := [], harness := (true, "1c2a2dc9769441116dd0938d746ce96a5bd21345341c9af10b02dec43062682f"), looks := false }, kinds := [], alts := [], laidByText := true, laidKinds := [.data, .pinned], laidTests := true, laidLooks := .later }
def TablePicksCardSaid : Prop := Claim7.holds Tryz.pinned (.plain (OpenSpec.ofChange tablePicksSpec)) tablePicksCard

/-- THE TIED CARD OF 'hypostylelaw.TableTells'. -/
def tableTellsCard : Claim7 := { stood := { row := tableTellsRow, standIns := [], harness := (true, "1c2a2dc9769441116dd0938d746ce96a5bd21345341c9af10b02dec43062682f"), looks := false }, kinds := [], alts := [], laidByText := true, laidKinds := [.data, .pinned], laidTests := true, laidLooks := .later }
def TableTellsCardSaid : Prop := Claim7.holds Tryz.pinned (.plain (OpenSpec.ofChange tableTellsSpec)) tableTellsCard

/-- THE TIED CARD OF 'hypostylelaw.TableRedacts'. -/
def tableRedactsCard : Claim7 := { stood := { row := tableRedactsRow, standIns := [], harness := (true, "1c2a2dc9769441116dd0938d746ce96a5bd21345341c9af10b02dec43062682f"), looks := false }, kinds := [], alts := [], laidByText := true, laidKinds := [.data, .pinned], laidTests := true, laidLooks := .later }
def TableRedactsCardSaid : Prop := Claim7.holds Tryz.pinned (.plain (OpenSpec.ofChange tableRedactsSpec)) tableRedactsCard

/-- THE SECOND FORM's CARD OF 'hypostylelaw.TablePicks'. -/
def tablePicksUptoCard : Claim7 := { stood := { row := tablePicksUptoRow, standIns := [], harness := (true, "1c2a2dc9769441116dd0938d746ce96a5bd21345341c9af10b02dec43062682f"), looks := false }, kinds := [], alts := [], laidByText := true, laidKinds := [.data, .pinned], laidTests := true, laidLooks := .later }
def TablePicksUptoCardSaid : Prop := Claim7.holds Tryz.pinned (.plain (OpenSpec.upto tablePicksSpec)) tablePicksUptoCard

/-- THE SECOND FORM's CARD OF 'hypostylelaw.TableTells'. -/
def tableTellsUptoCard : Claim7 := { stood := { row := tableTellsUptoRow, standIns := [], harness := (true, "1c2a2dc9769441116dd0938d746ce96a5bd21345341c9af10b02dec43062682f"), looks := false }, kinds := [], alts := [], laidByText := true, laidKinds := [.data, .pinned], laidTests := true, laidLooks := .later }
def TableTellsUptoCardSaid : Prop := Claim7.holds Tryz.pinned (.plain (OpenSpec.upto tableTellsSpec)) tableTellsUptoCard

/-- THE SECOND FORM's CARD OF 'hypostylelaw.TableRedacts'. -/
def tableRedactsUptoCard : Claim7 := { stood := { row := tableRedactsUptoRow, standIns := [], harness := (true, "1c2a2dc9769441116dd0938d746ce96a5bd21345341c9af10b02dec43062682f"), looks := false }, kinds := [], alts := [], laidByText := true, laidKinds := [.data, .pinned], laidTests := true, laidLooks := .later }
def TableRedactsUptoCardSaid : Prop := Claim7.holds Tryz.pinned (.plain (OpenSpec.upto tableRedactsSpec)) tableRedactsUptoCard
end Rows
end Go.Proofs.YtolhifnlahllnaaGreatDoor
