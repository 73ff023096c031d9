/-
  DERIVED. GIVEN WITH THE SEED: THE CARDS: each row of YtaaehcohmdojgaaGreatDoorRows.lean that lists a variable, with what it lists TIED to the program's text (the seventh form; the later family's looks); each row that meets fmt, with fmt's text TOLD by the authors' own Lean function (tested against real Go, not proved from fmt's source: count such statements apart). THE CARD IS WHAT COUNTS. Prove the row's statement (the work); the ties are given (YtaaehcohmdojgaaGreatDoorTie.lean); close each card by the builder's one call (the guide's Derived/Test/ToyasCard.lean, 'card_holds'). Laid BY PROGRAM, IN A SANDBOX (cutbox-door.mjs). By AI agents, Wed Nov 11 2026. No macro, syntax, notation, axiom, sorry.
-/
import Derived.Test.YtaaehcohmdojgaaGreatDoorRows
import GoSem.ClaimSeven
namespace Go.Proofs.YtaaehcohmdojgaaGreatDoor
namespace Rows

/-- THE TIED CARD OF 'gessolaw07.SegMeets'. -/
def segMeetsCard : Claim7 := { stood := { row := segMeetsRow, standIns := [], harness := (true, "655d772af44b1f4f4b6df1bbca81fd59f3f5a8ff66447d6bb10328206e44d2cd"), looks := false }, kinds := [], alts := [], laidByText := true, laidKinds := [.data, .pinned], laidTests := true, laidLooks := .later }
def SegMeetsCardSaid : Prop := Claim7.holds Tryz.pinned (.plain (OpenSpec.ofChange segMeetsSpec)) segMeetsCard

/-- THE TIED CARD OF 'gessolaw07.SegLines'. -/
def segLinesCard : Claim7 := { stood := { row := segLinesRow, standIns := [], harness := (true, "655d772af44b1f4f4b6df1bbca81fd59f3f5a8ff66447d6bb10328206e44d2cd"), looks := false }, kinds := [], alts := [], laidByText := true, laidKinds := [.data, .pinned], laidTests := true, laidLooks := .later }
def SegLinesCardSaid : Prop := Claim7.holds Tryz.pinned (.plain (OpenSpec.ofChange segLinesSpec)) segLinesCard

/-- THE TIED CARD OF 'gessolaw07.SegBoth'. -/
def segBothCard : Claim7 := { stood := { row := segBothRow, standIns := [], harness := (true, "655d772af44b1f4f4b6df1bbca81fd59f3f5a8ff66447d6bb10328206e44d2cd"), looks := false }, kinds := [], alts := [], laidByText := true, laidKinds := [.data, .pinned], laidTests := true, laidLooks := .later }
def SegBothCardSaid : Prop := Claim7.holds Tryz.pinned (.plain (OpenSpec.ofChange segBothSpec)) segBothCard

/-- THE TIED CARD OF 'gessolaw07.SegAt'. -/
def segAtCard : Claim7 := { stood := { row := segAtRow, standIns := [], harness := (true, "655d772af44b1f4f4b6df1bbca81fd59f3f5a8ff66447d6bb10328206e44d2cd"), looks := false }, kinds := [], alts := [], laidByText := true, laidKinds := [.data, .pinned], laidTests := true, laidLooks := .later }
def SegAtCardSaid : Prop := Claim7.holds Tryz.pinned (.plain (OpenSpec.ofChange segAtSpec)) segAtCard

/-- THE TIED CARD OF 'gessolaw07.SegCrosses'. -/
def segCrossesCard : Claim7 := { stood := { row := segCrossesRow, standIns := [], harness := (true, "655d772af44b1f4f4b6df1bbca81fd59f3f5a8ff66447d6bb10328206e44d2cd"), looks := false }, kinds := [], alts := [], laidByText := true, laidKinds := [.data, .pinned], laidTests := true, laidLooks := .later }
def SegCrossesCardSaid : Prop := Claim7.holds Tryz.pinned (.plain (OpenSpec.ofChange segCrossesSpec)) segCrossesCard

/-- THE SECOND FORM's CARD OF 'gessolaw07.SegMeets'. -/
def segMeetsUptoCard : Claim7 := { stood := { row := segMeetsUptoRow, standIns := [], harness := (true, "655d772af44b1f4f4b6df1bbca81fd59f3f5a8ff66447d6bb10328206e44d2cd"), looks := false }, kinds := [], alts := [], laidByText := true, laidKinds := [.data, .pinned], laidTests := true, laidLooks := .later }
def SegMeetsUptoCardSaid : Prop := Claim7.holds Tryz.pinned (.plain (OpenSpec.upto segMeetsSpec)) segMeetsUptoCard

/-- THE SECOND FORM's CARD OF 'gessolaw07.SegLines'. -/
def segLinesUptoCard : Claim7 := { stood := { row := segLinesUptoRow, standIns := [], harness := (true, "655d772af44b1f4f4b6df1bbca81fd59f3f5a8ff66447d6bb10328206e44d2cd"), looks := false }, kinds := [], alts := [], laidByText := true, laidKinds := [.data, .pinned], laidTests := true, laidLooks := .later }
def SegLinesUptoCardSaid : Prop := Claim7.holds Tryz.pinned (.plain (OpenSpec.upto segLinesSpec)) segLinesUptoCard

/-- THE SECOND FORM's CARD OF 'gessolaw07.SegBoth'. -/
def segBothUptoCard : Claim7 := { stood := { row := segBothUptoRow, standIns := [], harness := (true, "655d772af44b1f4f4b6df1bbca81fd59f3f5a8ff66447d6bb10328206e44d2cd"), looks := false }, kinds := [], alts := [], laidByText := true, laidKinds := [.data, .pinned], laidTests := true, laidLooks := .later }
def SegBothUptoCardSaid : Prop := Claim7.holds Tryz.pinned (.plain (OpenSpec.upto segBothSpec)) segBothUptoCard

/-- THE SECOND FORM's CARD OF 'gessolaw07.SegAt'. -/
def segAtUptoCard : Claim7 := { stood := { row := segAtUptoRow, standIns := [], harness := (true, "655d772af44b1f4f4b6df1bbca81fd59f3f5a8ff66447d6bb10328206e44d2cd"), looks := false }, kinds := [], alts := [], laidByText := true, laidKinds := [.data, .pinned], laidTests := true, laidLooks := .later }
def SegAtUptoCardSaid : Prop := Claim7.holds Tryz.pinned (.plain (OpenSpec.upto segAtSpec)) segAtUptoCard

/-- THE SECOND FORM's CARD OF 'gessolaw07.SegCrosses'. -/
def segCrossesUptoCard : Claim7 := { stood := { row := segCrossesUptoRow, standIns := [], harness := (true, "655d772af44b1f4f4b6df1bbca81fd59f3f5a8ff66447d6bb10328206e44d2cd"), looks := false }, kinds := [], alts := [], laidByText := true, laidKinds := [.data, .pinned], laidTests := true, laidLooks := .later }
def SegCrossesUptoCardSaid : Prop := Claim7.holds Tryz.pinned (.plain (OpenSpec.upto segCrossesSpec)) segCrossesUptoCard
end Rows
end Go.Proofs.YtaaehcohmdojgaaGreatDoor
