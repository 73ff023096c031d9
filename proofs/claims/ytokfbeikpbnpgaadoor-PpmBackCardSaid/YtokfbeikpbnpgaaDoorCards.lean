/-
  DERIVED. GIVEN WITH THE SEED: THE CARDS: each row of YtokfbeikpbnpgaaDoorRows.lean that lists a variable, with what it lists TIED to the program's text (the seventh form; the later family's looks); each row that meets fmt, with fmt's text TOLD by the authors' own Lean function (tested against real Go, not proved from fmt's source: count such statements apart). THE CARD IS WHAT COUNTS. Prove the row's statement (the work); the ties are given (YtokfbeikpbnpgaaDoorTie.lean); close each card by the builder's one call (the guide's Derived/Test/ToyasCard.lean, 'card_holds'). Laid BY PROGRAM, IN A SANDBOX (cutbox-door.mjs). By AI agents, Wed Nov 11 2026. No macro, syntax, notation, axiom, sorry.
-/
import Derived.Test.YtokfbeikpbnpgaaDoorRows
import GoSem.ClaimSeven
namespace Go.Proofs.YtokfbeikpbnpgaaDoor
namespace Rows

/-- THE TIED CARD OF 'gessolaw29.PpmFiles'. -/
def ppmFilesCard : Claim7 := { stood := { row := ppmFilesRow, standIns := [], harness := (true, "cf2896a65fdd45d3d2ce2c2f9d52e4b1daef6a630336dd8a6eac9f5485ed8d8d"), looks := false }, kinds := [], alts := [], laidByText := true, laidKinds := [.data, .data, .data], laidTests := true, laidLooks := .later }
def PpmFilesCardSaid : Prop := Claim7.holds Tryd.pinned (.plain (OpenSpec.ofChange ppmFilesSpec)) ppmFilesCard

/-- THE TIED CARD OF 'gessolaw29.PpmBack'. -/
def ppmBackCard : Claim7 := { stood := { row := ppmBackRow, standIns := [], harness := (true, "cf2896a65fdd45d3d2ce2c2f9d52e4b1daef6a630336dd8a6eac9f5485ed8d8d"), looks := false }, kinds := [], alts := [], laidByText := true, laidKinds := [.data, .data, .data], laidTests := true, laidLooks := .later }
def PpmBackCardSaid : Prop := Claim7.holds Tryd.pinned (.plain (OpenSpec.ofChange ppmBackSpec)) ppmBackCard

/-- THE TIED CARD OF 'gessolaw29.PpmSize'. -/
def ppmSizeCard : Claim7 := { stood := { row := ppmSizeRow, standIns := [], harness := (true, "cf2896a65fdd45d3d2ce2c2f9d52e4b1daef6a630336dd8a6eac9f5485ed8d8d"), looks := false }, kinds := [], alts := [], laidByText := true, laidKinds := [.data, .data, .data], laidTests := true, laidLooks := .later }
def PpmSizeCardSaid : Prop := Claim7.holds Tryd.pinned (.plain (OpenSpec.ofChange ppmSizeSpec)) ppmSizeCard

/-- THE SECOND FORM's CARD OF 'gessolaw29.PpmFiles'. -/
def ppmFilesUptoCard : Claim7 := { stood := { row := ppmFilesUptoRow, standIns := [], harness := (true, "cf2896a65fdd45d3d2ce2c2f9d52e4b1daef6a630336dd8a6eac9f5485ed8d8d"), looks := false }, kinds := [], alts := [], laidByText := true, laidKinds := [.data, .data, .data], laidTests := true, laidLooks := .later }
def PpmFilesUptoCardSaid : Prop := Claim7.holds Tryd.pinned (.plain (OpenSpec.upto ppmFilesSpec)) ppmFilesUptoCard

/-- THE SECOND FORM's CARD OF 'gessolaw29.PpmBack'. -/
def ppmBackUptoCard : Claim7 := { stood := { row := ppmBackUptoRow, standIns := [], harness := (true, "cf2896a65fdd45d3d2ce2c2f9d52e4b1daef6a630336dd8a6eac9f5485ed8d8d"), looks := false }, kinds := [], alts := [], laidByText := true, laidKinds := [.data, .data, .data], laidTests := true, laidLooks := .later }
def PpmBackUptoCardSaid : Prop := Claim7.holds Tryd.pinned (.plain (OpenSpec.upto ppmBackSpec)) ppmBackUptoCard

/-- THE SECOND FORM's CARD OF 'gessolaw29.PpmSize'. -/
def ppmSizeUptoCard : Claim7 := { stood := { row := ppmSizeUptoRow, standIns := [], harness := (true, "cf2896a65fdd45d3d2ce2c2f9d52e4b1daef6a630336dd8a6eac9f5485ed8d8d"), looks := false }, kinds := [], alts := [], laidByText := true, laidKinds := [.data, .data, .data], laidTests := true, laidLooks := .later }
def PpmSizeUptoCardSaid : Prop := Claim7.holds Tryd.pinned (.plain (OpenSpec.upto ppmSizeSpec)) ppmSizeUptoCard
end Rows
end Go.Proofs.YtokfbeikpbnpgaaDoor
