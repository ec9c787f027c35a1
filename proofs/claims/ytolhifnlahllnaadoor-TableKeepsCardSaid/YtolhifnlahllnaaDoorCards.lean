/-
  DERIVED. GIVEN WITH THE SEED: THE CARDS: each row of YtolhifnlahllnaaDoorRows.lean that lists a variable, with what it lists TIED to the program's text (the seventh form; the later family's looks); each row that meets fmt, with fmt's text TOLD by the authors' own Lean function (tested against real Go, not proved from fmt's source: count such statements apart). THE CARD IS WHAT COUNTS. Prove the row's statement (the work); the ties are given (YtolhifnlahllnaaDoorTie.lean); close each card by the builder's one call (the guide's Derived/Test/ToyasCard.lean, 'card_holds'). Laid BY PROGRAM, IN A SANDBOX (cutbox-door.mjs). By AI agents, Wed Nov 11 2026. No macro, syntax, notation, axiom, sorry.
-/
import Derived.Test.YtolhifnlahllnaaDoorRows
import GoSem.ClaimSeven
namespace Go.Proofs.YtolhifnlahllnaaDoor
namespace Rows

/-- THE TIED CARD OF 'hypostylelaw.FsTells'. -/
def fsTellsCard : Claim7 := { stood := { row := fsTellsRow, standIns := [], harness := (true, "6926339ea9afa06bc31066a4c20ab297cf236e3a26c8135298f710a1a2b28bc8"), looks := false }, kinds := [], alts := [], laidByText := true, laidKinds := [.data, .pinned], laidTests := true, laidLooks := .later }
def FsTellsCardSaid : Prop := Claim7.holds Tryd.pinned (.plain (OpenSpec.ofChange fsTellsSpec)) fsTellsCard

/-- THE TIED CARD OF 'hypostylelaw.FsPlays'. -/
def fsPlaysCard : Claim7 := { stood := { row := fsPlaysRow, standIns := [], harness := (true, "6926339ea9afa06bc31066a4c20ab297cf236e3a26c8135298f710a1a2b28bc8"), looks := false }, kinds := [], alts := [], laidByText := true, laidKinds := [.data, .pinned], laidTests := true, laidLooks := .later }
def FsPlaysCardSaid : Prop := Claim7.holds Tryd.pinned (.plain (OpenSpec.ofChange fsPlaysSpec)) fsPlaysCard

/-- THE TIED CARD OF 'hypostylelaw.FsReads'. -/
def fsReadsCard : Claim7 := { stood := { row := fsReadsRow, standIns := [], harness := (true, "6926339ea9afa06bc31066a4c20ab297cf236e3a26c8135298f710a1a2b28bc8"), looks := false }, kinds := [], alts := [], laidByText := true, laidKinds := [.data, .pinned], laidTests := true, laidLooks := .later }
def FsReadsCardSaid : Prop := Claim7.holds Tryd.pinned (.plain (OpenSpec.ofChange fsReadsSpec)) fsReadsCard

/-- THE TIED CARD OF 'hypostylelaw.FsGood'. -/
def fsGoodCard : Claim7 := { stood := { row := fsGoodRow, standIns := [], harness := (true, "6926339ea9afa06bc31066a4c20ab297cf236e3a26c8135298f710a1a2b28bc8"), looks := false }, kinds := [], alts := [], laidByText := true, laidKinds := [.data, .pinned], laidTests := true, laidLooks := .later }
def FsGoodCardSaid : Prop := Claim7.holds Tryd.pinned (.plain (OpenSpec.ofChange fsGoodSpec)) fsGoodCard

/-- THE TIED CARD OF 'hypostylelaw.FsEither'. -/
def fsEitherCard : Claim7 := { stood := { row := fsEitherRow, standIns := [], harness := (true, "6926339ea9afa06bc31066a4c20ab297cf236e3a26c8135298f710a1a2b28bc8"), looks := false }, kinds := [], alts := [], laidByText := true, laidKinds := [.data, .pinned], laidTests := true, laidLooks := .later }
def FsEitherCardSaid : Prop := Claim7.holds Tryd.pinned (.plain (OpenSpec.ofChange fsEitherSpec)) fsEitherCard

/-- THE TIED CARD OF 'hypostylelaw.TableKeeps'. -/
def tableKeepsCard : Claim7 := { stood := { row := tableKeepsRow, standIns := [], harness := (true, "6926339ea9afa06bc31066a4c20ab297cf236e3a26c8135298f710a1a2b28bc8"), looks := false }, kinds := [], alts := [], laidByText := true, laidKinds := [.data, .pinned], laidTests := true, laidLooks := .later }
def TableKeepsCardSaid : Prop := Claim7.holds Tryd.pinned (.plain (OpenSpec.ofChange tableKeepsSpec)) tableKeepsCard

/-- THE TIED CARD OF 'hypostylelaw.TableParts'. -/
def tablePartsCard : Claim7 := { stood := { row := tablePartsRow, standIns := [], harness := (true, "6926339ea9afa06bc31066a4c20ab297cf236e3a26c8135298f710a1a2b28bc8"), looks := false }, kinds := [], alts := [], laidByText := true, laidKinds := [.data, .pinned], laidTests := true, laidLooks := .later }
def TablePartsCardSaid : Prop := Claim7.holds Tryd.pinned (.plain (OpenSpec.ofChange tablePartsSpec)) tablePartsCard

/-- THE TIED CARD OF 'hypostylelaw.TableProjects'. -/
def tableProjectsCard : Claim7 := { stood := { row := tableProjectsRow, standIns := [], harness := (true, "6926339ea9afa06bc31066a4c20ab297cf236e3a26c8135298f710a1a2b28bc8"), looks := false }, kinds := [], alts := [], laidByText := true, laidKinds := [.data, .pinned], laidTests := true, laidLooks := .later }
def TableProjectsCardSaid : Prop := Claim7.holds Tryd.pinned (.plain (OpenSpec.ofChange tableProjectsSpec)) tableProjectsCard

/-- THE TIED CARD OF 'hypostylelaw.TableUndone'. -/
def tableUndoneCard : Claim7 := { stood := { row := tableUndoneRow, standIns := [], harness := (true, "6926339ea9afa06bc31066a4c20ab297cf236e3a26c8135298f710a1a2b28bc8"), looks := false }, kinds := [], alts := [], laidByText := true, laidKinds := [.data, .pinned], laidTests := true, laidLooks := .later }
def TableUndoneCardSaid : Prop := Claim7.holds Tryd.pinned (.plain (OpenSpec.ofChange tableUndoneSpec)) tableUndoneCard

/-- THE SECOND FORM's CARD OF 'hypostylelaw.FsTells'. -/
def fsTellsUptoCard : Claim7 := { stood := { row := fsTellsUptoRow, standIns := [], harness := (true, "6926339ea9afa06bc31066a4c20ab297cf236e3a26c8135298f710a1a2b28bc8"), looks := false }, kinds := [], alts := [], laidByText := true, laidKinds := [.data, .pinned], laidTests := true, laidLooks := .later }
def FsTellsUptoCardSaid : Prop := Claim7.holds Tryd.pinned (.plain (OpenSpec.upto fsTellsSpec)) fsTellsUptoCard

/-- THE SECOND FORM's CARD OF 'hypostylelaw.FsPlays'. -/
def fsPlaysUptoCard : Claim7 := { stood := { row := fsPlaysUptoRow, standIns := [], harness := (true, "6926339ea9afa06bc31066a4c20ab297cf236e3a26c8135298f710a1a2b28bc8"), looks := false }, kinds := [], alts := [], laidByText := true, laidKinds := [.data, .pinned], laidTests := true, laidLooks := .later }
def FsPlaysUptoCardSaid : Prop := Claim7.holds Tryd.pinned (.plain (OpenSpec.upto fsPlaysSpec)) fsPlaysUptoCard

/-- THE SECOND FORM's CARD OF 'hypostylelaw.FsReads'. -/
def fsReadsUptoCard : Claim7 := { stood := { row := fsReadsUptoRow, standIns := [], harness := (true, "6926339ea9afa06bc31066a4c20ab297cf236e3a26c8135298f710a1a2b28bc8"), looks := false }, kinds := [], alts := [], laidByText := true, laidKinds := [.data, .pinned], laidTests := true, laidLooks := .later }
def FsReadsUptoCardSaid : Prop := Claim7.holds Tryd.pinned (.plain (OpenSpec.upto fsReadsSpec)) fsReadsUptoCard

/-- THE SECOND FORM's CARD OF 'hypostylelaw.FsGood'. -/
def fsGoodUptoCard : Claim7 := { stood := { row := fsGoodUptoRow, standIns := [], harness := (true, "6926339ea9afa06bc31066a4c20ab297cf236e3a26c8135298f710a1a2b28bc8"), looks := false }, kinds := [], alts := [], laidByText := true, laidKinds := [.data, .pinned], laidTests := true, laidLooks := .later }
def FsGoodUptoCardSaid : Prop := Claim7.holds Tryd.pinned (.plain (OpenSpec.upto fsGoodSpec)) fsGoodUptoCard

/-- THE SECOND FORM's CARD OF 'hypostylelaw.FsEither'. -/
def fsEitherUptoCard : Claim7 := { stood := { row := fsEitherUptoRow, standIns := [], harness := (true, "6926339ea9afa06bc31066a4c20ab297cf236e3a26c8135298f710a1a2b28bc8"), looks := false }, kinds := [], alts := [], laidByText := true, laidKinds := [.data, .pinned], laidTests := true, laidLooks := .later }
def FsEitherUptoCardSaid : Prop := Claim7.holds Tryd.pinned (.plain (OpenSpec.upto fsEitherSpec)) fsEitherUptoCard

/-- THE SECOND FORM's CARD OF 'hypostylelaw.TableKeeps'. -/
def tableKeepsUptoCard : Claim7 := { stood := { row := tableKeepsUptoRow, standIns := [], harness := (true, "6926339ea9afa06bc31066a4c20ab297cf236e3a26c8135298f710a1a2b28bc8"), looks := false }, kinds := [], alts := [], laidByText := true, laidKinds := [.data, .pinned], laidTests := true, laidLooks := .later }
def TableKeepsUptoCardSaid : Prop := Claim7.holds Tryd.pinned (.plain (OpenSpec.upto tableKeepsSpec)) tableKeepsUptoCard

/-- THE SECOND FORM's CARD OF 'hypostylelaw.TableParts'. -/
def tablePartsUptoCard : Claim7 := { stood := { row := tablePartsUptoRow, standIns := [], harness := (true, "6926339ea9afa06bc31066a4c20ab297cf236e3a26c8135298f710a1a2b28bc8"), looks := false }, kinds := [], alts := [], laidByText := true, laidKinds := [.data, .pinned], laidTests := true, laidLooks := .later }
def TablePartsUptoCardSaid : Prop := Claim7.holds Tryd.pinned (.plain (OpenSpec.upto tablePartsSpec)) tablePartsUptoCard

/-- THE SECOND FORM's CARD OF 'hypostylelaw.TableProjects'. -/
def tableProjectsUptoCard : Claim7 := { stood := { row := tableProjectsUptoRow, standIns := [], harness := (true, "6926339ea9afa06bc31066a4c20ab297cf236e3a26c8135298f710a1a2b28bc8"), looks := false }, kinds := [], alts := [], laidByText := true, laidKinds := [.data, .pinned], laidTests := true, laidLooks := .later }
def TableProjectsUptoCardSaid : Prop := Claim7.holds Tryd.pinned (.plain (OpenSpec.upto tableProjectsSpec)) tableProjectsUptoCard

/-- THE SECOND FORM's CARD OF 'hypostylelaw.TableUndone'. -/
def tableUndoneUptoCard : Claim7 := { stood := { row := tableUndoneUptoRow, standIns := [], harness := (true, "6926339ea9afa06bc31066a4c20ab297cf236e3a26c8135298f710a1a2b28bc8"), looks := false }, kinds := [], alts := [], laidByText := true, laidKinds := [.data, .pinned], laidTests := true, laidLooks := .later }
def TableUndoneUptoCardSaid : Prop := Claim7.holds Tryd.pinned (.plain (OpenSpec.upto tableUndoneSpec)) tableUndoneUptoCard
end Rows
end Go.Proofs.YtolhifnlahllnaaDoor
