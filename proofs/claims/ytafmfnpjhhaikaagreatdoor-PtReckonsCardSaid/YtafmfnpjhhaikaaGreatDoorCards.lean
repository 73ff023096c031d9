/-
  DERIVED. GIVEN WITH THE SEED: THE CARDS: each row of YtafmfnpjhhaikaaGreatDoorRows.lean that lists a variable, with what it lists TIED to the program's text (the seventh form; the later family's looks); each row that meets fmt, with fmt's text TOLD by the authors' own Lean function (tested against real Go, not proved from fmt's source: count such statements apart). THE CARD IS WHAT COUNTS. Prove the row's statement (the work); the ties are given (YtafmfnpjhhaikaaGreatDoorTie.lean); close each card by the builder's one call (the guide's Derived/Test/ToyasCard.lean, 'card_holds'). Laid BY PROGRAM, IN A SANDBOX (cutbox-door.mjs). By AI agents, Wed Nov 11 2026. No macro, syntax, notation, axiom, sorry.
-/
import Derived.Test.YtafmfnpjhhaikaaGreatDoorRows
import GoSem.ClaimSeven
namespace Go.Proofs.YtafmfnpjhhaikaaGreatDoor
namespace Rows

/-- THE TIED CARD OF 'gessolaw06.PtReckons'. -/
def ptReckonsCard : Claim7 := { stood := { row := ptReckonsRow, standIns := [], harness := (true, "43f5f45e0aff461e842f63e6b450336b12f580a41396a01f78f14702bd15f11d"), looks := false }, kinds := [], alts := [], laidByText := true, laidKinds := [.data, .pinned], laidTests := true, laidLooks := .later }
def PtReckonsCardSaid : Prop := Claim7.holds Tryz.pinned (.plain (OpenSpec.ofChange ptReckonsSpec)) ptReckonsCard

/-- THE TIED CARD OF 'gessolaw06.PtPlaces'. -/
def ptPlacesCard : Claim7 := { stood := { row := ptPlacesRow, standIns := [], harness := (true, "43f5f45e0aff461e842f63e6b450336b12f580a41396a01f78f14702bd15f11d"), looks := false }, kinds := [], alts := [], laidByText := true, laidKinds := [.data, .pinned], laidTests := true, laidLooks := .later }
def PtPlacesCardSaid : Prop := Claim7.holds Tryz.pinned (.plain (OpenSpec.ofChange ptPlacesSpec)) ptPlacesCard

/-- THE TIED CARD OF 'gessolaw06.PtTurns'. -/
def ptTurnsCard : Claim7 := { stood := { row := ptTurnsRow, standIns := [], harness := (true, "43f5f45e0aff461e842f63e6b450336b12f580a41396a01f78f14702bd15f11d"), looks := false }, kinds := [], alts := [], laidByText := true, laidKinds := [.data, .pinned], laidTests := true, laidLooks := .later }
def PtTurnsCardSaid : Prop := Claim7.holds Tryz.pinned (.plain (OpenSpec.ofChange ptTurnsSpec)) ptTurnsCard

/-- THE TIED CARD OF 'gessolaw06.PtNear'. -/
def ptNearCard : Claim7 := { stood := { row := ptNearRow, standIns := [], harness := (true, "43f5f45e0aff461e842f63e6b450336b12f580a41396a01f78f14702bd15f11d"), looks := false }, kinds := [], alts := [], laidByText := true, laidKinds := [.data, .pinned], laidTests := true, laidLooks := .later }
def PtNearCardSaid : Prop := Claim7.holds Tryz.pinned (.plain (OpenSpec.ofChange ptNearSpec)) ptNearCard

/-- THE TIED CARD OF 'gessolaw06.PtSquares'. -/
def ptSquaresCard : Claim7 := { stood := { row := ptSquaresRow, standIns := [], harness := (true, "43f5f45e0aff461e842f63e6b450336b12f580a41396a01f78f14702bd15f11d"), looks := false }, kinds := [], alts := [], laidByText := true, laidKinds := [.data, .pinned], laidTests := true, laidLooks := .later }
def PtSquaresCardSaid : Prop := Claim7.holds Tryz.pinned (.plain (OpenSpec.ofChange ptSquaresSpec)) ptSquaresCard

/-- THE TIED CARD OF 'gessolaw09.MatDoes'. -/
def matDoesCard : Claim7 := { stood := { row := matDoesRow, standIns := [], harness := (true, "43f5f45e0aff461e842f63e6b450336b12f580a41396a01f78f14702bd15f11d"), looks := false }, kinds := [], alts := [], laidByText := true, laidKinds := [.data, .pinned], laidTests := true, laidLooks := .later }
def MatDoesCardSaid : Prop := Claim7.holds Tryz.pinned (.plain (OpenSpec.ofChange matDoesSpec)) matDoesCard

/-- THE TIED CARD OF 'gessolaw09.MatMakes'. -/
def matMakesCard : Claim7 := { stood := { row := matMakesRow, standIns := [], harness := (true, "43f5f45e0aff461e842f63e6b450336b12f580a41396a01f78f14702bd15f11d"), looks := false }, kinds := [], alts := [], laidByText := true, laidKinds := [.data, .pinned], laidTests := true, laidLooks := .later }
def MatMakesCardSaid : Prop := Claim7.holds Tryz.pinned (.plain (OpenSpec.ofChange matMakesSpec)) matMakesCard

/-- THE TIED CARD OF 'gessolaw09.MatParts'. -/
def matPartsCard : Claim7 := { stood := { row := matPartsRow, standIns := [], harness := (true, "43f5f45e0aff461e842f63e6b450336b12f580a41396a01f78f14702bd15f11d"), looks := false }, kinds := [], alts := [], laidByText := true, laidKinds := [.data, .pinned], laidTests := true, laidLooks := .later }
def MatPartsCardSaid : Prop := Claim7.holds Tryz.pinned (.plain (OpenSpec.ofChange matPartsSpec)) matPartsCard

/-- THE TIED CARD OF 'gessolaw09.MatLaws'. -/
def matLawsCard : Claim7 := { stood := { row := matLawsRow, standIns := [], harness := (true, "43f5f45e0aff461e842f63e6b450336b12f580a41396a01f78f14702bd15f11d"), looks := false }, kinds := [], alts := [], laidByText := true, laidKinds := [.data, .pinned], laidTests := true, laidLooks := .later }
def MatLawsCardSaid : Prop := Claim7.holds Tryz.pinned (.plain (OpenSpec.ofChange matLawsSpec)) matLawsCard

/-- THE SECOND FORM's CARD OF 'gessolaw06.PtReckons'. -/
def ptReckonsUptoCard : Claim7 := { stood := { row := ptReckonsUptoRow, standIns := [], harness := (true, "43f5f45e0aff461e842f63e6b450336b12f580a41396a01f78f14702bd15f11d"), looks := false }, kinds := [], alts := [], laidByText := true, laidKinds := [.data, .pinned], laidTests := true, laidLooks := .later }
def PtReckonsUptoCardSaid : Prop := Claim7.holds Tryz.pinned (.plain (OpenSpec.upto ptReckonsSpec)) ptReckonsUptoCard

/-- THE SECOND FORM's CARD OF 'gessolaw06.PtPlaces'. -/
def ptPlacesUptoCard : Claim7 := { stood := { row := ptPlacesUptoRow, standIns := [], harness := (true, "43f5f45e0aff461e842f63e6b450336b12f580a41396a01f78f14702bd15f11d"), looks := false }, kinds := [], alts := [], laidByText := true, laidKinds := [.data, .pinned], laidTests := true, laidLooks := .later }
def PtPlacesUptoCardSaid : Prop := Claim7.holds Tryz.pinned (.plain (OpenSpec.upto ptPlacesSpec)) ptPlacesUptoCard

/-- THE SECOND FORM's CARD OF 'gessolaw06.PtTurns'. -/
def ptTurnsUptoCard : Claim7 := { stood := { row := ptTurnsUptoRow, standIns := [], harness := (true, "43f5f45e0aff461e842f63e6b450336b12f580a41396a01f78f14702bd15f11d"), looks := false }, kinds := [], alts := [], laidByText := true, laidKinds := [.data, .pinned], laidTests := true, laidLooks := .later }
def PtTurnsUptoCardSaid : Prop := Claim7.holds Tryz.pinned (.plain (OpenSpec.upto ptTurnsSpec)) ptTurnsUptoCard

/-- THE SECOND FORM's CARD OF 'gessolaw06.PtNear'. -/
def ptNearUptoCard : Claim7 := { stood := { row := ptNearUptoRow, standIns := [], harness := (true, "43f5f45e0aff461e842f63e6b450336b12f580a41396a01f78f14702bd15f11d"), looks := false }, kinds := [], alts := [], laidByText := true, laidKinds := [.data, .pinned], laidTests := true, laidLooks := .later }
def PtNearUptoCardSaid : Prop := Claim7.holds Tryz.pinned (.plain (OpenSpec.upto ptNearSpec)) ptNearUptoCard

/-- THE SECOND FORM's CARD OF 'gessolaw06.PtSquares'. -/
def ptSquaresUptoCard : Claim7 := { stood := { row := ptSquaresUptoRow, standIns := [], harness := (true, "43f5f45e0aff461e842f63e6b450336b12f580a41396a01f78f14702bd15f11d"), looks := false }, kinds := [], alts := [], laidByText := true, laidKinds := [.data, .pinned], laidTests := true, laidLooks := .later }
def PtSquaresUptoCardSaid : Prop := Claim7.holds Tryz.pinned (.plain (OpenSpec.upto ptSquaresSpec)) ptSquaresUptoCard

/-- THE SECOND FORM's CARD OF 'gessolaw09.MatDoes'. -/
def matDoesUptoCard : Claim7 := { stood := { row := matDoesUptoRow, standIns := [], harness := (true, "43f5f45e0aff461e842f63e6b450336b12f580a41396a01f78f14702bd15f11d"), looks := false }, kinds := [], alts := [], laidByText := true, laidKinds := [.data, .pinned], laidTests := true, laidLooks := .later }
def MatDoesUptoCardSaid : Prop := Claim7.holds Tryz.pinned (.plain (OpenSpec.upto matDoesSpec)) matDoesUptoCard

/-- THE SECOND FORM's CARD OF 'gessolaw09.MatMakes'. -/
def matMakesUptoCard : Claim7 := { stood := { row := matMakesUptoRow, standIns := [], harness := (true, "43f5f45e0aff461e842f63e6b450336b12f580a41396a01f78f14702bd15f11d"), looks := false }, kinds := [], alts := [], laidByText := true, laidKinds := [.data, .pinned], laidTests := true, laidLooks := .later }
def MatMakesUptoCardSaid : Prop := Claim7.holds Tryz.pinned (.plain (OpenSpec.upto matMakesSpec)) matMakesUptoCard

/-- THE SECOND FORM's CARD OF 'gessolaw09.MatParts'. -/
def matPartsUptoCard : Claim7 := { stood := { row := matPartsUptoRow, standIns := [], harness := (true, "43f5f45e0aff461e842f63e6b450336b12f580a41396a01f78f14702bd15f11d"), looks := false }, kinds := [], alts := [], laidByText := true, laidKinds := [.data, .pinned], laidTests := true, laidLooks := .later }
def MatPartsUptoCardSaid : Prop := Claim7.holds Tryz.pinned (.plain (OpenSpec.upto matPartsSpec)) matPartsUptoCard

/-- THE SECOND FORM's CARD OF 'gessolaw09.MatLaws'. -/
def matLawsUptoCard : Claim7 := { stood := { row := matLawsUptoRow, standIns := [], harness := (true, "43f5f45e0aff461e842f63e6b450336b12f580a41396a01f78f14702bd15f11d"), looks := false }, kinds := [], alts := [], laidByText := true, laidKinds := [.data, .pinned], laidTests := true, laidLooks := .later }
def MatLawsUptoCardSaid : Prop := Claim7.holds Tryz.pinned (.plain (OpenSpec.upto matLawsSpec)) matLawsUptoCard
end Rows
end Go.Proofs.YtafmfnpjhhaikaaGreatDoor
