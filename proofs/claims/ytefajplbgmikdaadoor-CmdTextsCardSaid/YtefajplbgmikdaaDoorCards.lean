/-
  DERIVED. GIVEN WITH THE SEED: THE CARDS: each row of YtefajplbgmikdaaDoorRows.lean that lists a variable, with what it lists TIED to the program's text (the seventh form; the later family's looks); each row that meets fmt, with fmt's text TOLD by the authors' own Lean function (tested against real Go, not proved from fmt's source: count such statements apart). THE CARD IS WHAT COUNTS. Prove the row's statement (the work); the ties are given (YtefajplbgmikdaaDoorTie.lean); close each card by the builder's one call (the guide's Derived/Test/ToyasCard.lean, 'card_holds'). Laid BY PROGRAM, IN A SANDBOX (cutbox-door.mjs). By AI agents, Wed Nov 11 2026. No macro, syntax, notation, axiom, sorry.
-/
import Derived.Test.YtefajplbgmikdaaDoorRows
import GoSem.ClaimSeven
namespace Go.Proofs.YtefajplbgmikdaaDoor
namespace Rows

/-- THE TIED CARD OF 'gessolaw11.PathTexts'. -/
def pathTextsCard : Claim7 := { stood := { row := pathTextsRow, standIns := [], harness := (true, "487eb1cdc786b1a0920b0646a0d8287a4da6ae1c09800932899b2e2c2ad925d6"), looks := false }, kinds := [], alts := [], laidByText := true, laidKinds := [.data, .data, .data, .data], laidTests := true, laidLooks := .later }
def PathTextsCardSaid : Prop := Claim7.holds Tryd.pinned (.plain (OpenSpec.ofChange pathTextsSpec)) pathTextsCard

/-- THE TIED CARD OF 'gessolaw11.PathBack'. -/
def pathBackCard : Claim7 := { stood := { row := pathBackRow, standIns := [], harness := (true, "487eb1cdc786b1a0920b0646a0d8287a4da6ae1c09800932899b2e2c2ad925d6"), looks := false }, kinds := [], alts := [], laidByText := true, laidKinds := [.data, .data, .data, .data], laidTests := true, laidLooks := .later }
def PathBackCardSaid : Prop := Claim7.holds Tryd.pinned (.plain (OpenSpec.ofChange pathBackSpec)) pathBackCard

/-- THE TIED CARD OF 'gessolaw11.PathSmall'. -/
def pathSmallCard : Claim7 := { stood := { row := pathSmallRow, standIns := [], harness := (true, "487eb1cdc786b1a0920b0646a0d8287a4da6ae1c09800932899b2e2c2ad925d6"), looks := false }, kinds := [], alts := [], laidByText := true, laidKinds := [.data, .data, .data, .data], laidTests := true, laidLooks := .later }
def PathSmallCardSaid : Prop := Claim7.holds Tryd.pinned (.plain (OpenSpec.ofChange pathSmallSpec)) pathSmallCard

/-- THE TIED CARD OF 'gessolaw11.PathMirrors'. -/
def pathMirrorsCard : Claim7 := { stood := { row := pathMirrorsRow, standIns := [], harness := (true, "487eb1cdc786b1a0920b0646a0d8287a4da6ae1c09800932899b2e2c2ad925d6"), looks := false }, kinds := [], alts := [], laidByText := true, laidKinds := [.data, .data, .data, .data], laidTests := true, laidLooks := .later }
def PathMirrorsCardSaid : Prop := Claim7.holds Tryd.pinned (.plain (OpenSpec.ofChange pathMirrorsSpec)) pathMirrorsCard

/-- THE TIED CARD OF 'gessolaw11.PathAgain'. -/
def pathAgainCard : Claim7 := { stood := { row := pathAgainRow, standIns := [], harness := (true, "487eb1cdc786b1a0920b0646a0d8287a4da6ae1c09800932899b2e2c2ad925d6"), looks := false }, kinds := [], alts := [], laidByText := true, laidKinds := [.data, .data, .data, .data], laidTests := true, laidLooks := .later }
def PathAgainCardSaid : Prop := Claim7.holds Tryd.pinned (.plain (OpenSpec.ofChange pathAgainSpec)) pathAgainCard

/-- THE TIED CARD OF 'gessolaw12.CmdTexts'. -/
def cmdTextsCard : Claim7 := { stood := { row := cmdTextsRow, standIns := [], harness := (true, "487eb1cdc786b1a0920b0646a0d8287a4da6ae1c09800932899b2e2c2ad925d6"), looks := false }, kinds := [], alts := [], laidByText := true, laidKinds := [.data, .data, .data, .data], laidTests := true, laidLooks := .later }
def CmdTextsCardSaid : Prop := Claim7.holds Tryd.pinned (.plain (OpenSpec.ofChange cmdTextsSpec)) cmdTextsCard

/-- THE TIED CARD OF 'gessolaw12.CmdBack'. -/
def cmdBackCard : Claim7 := { stood := { row := cmdBackRow, standIns := [], harness := (true, "487eb1cdc786b1a0920b0646a0d8287a4da6ae1c09800932899b2e2c2ad925d6"), looks := false }, kinds := [], alts := [], laidByText := true, laidKinds := [.data, .data, .data, .data], laidTests := true, laidLooks := .later }
def CmdBackCardSaid : Prop := Claim7.holds Tryd.pinned (.plain (OpenSpec.ofChange cmdBackSpec)) cmdBackCard

/-- THE TIED CARD OF 'gessolaw12.CmdFirst'. -/
def cmdFirstCard : Claim7 := { stood := { row := cmdFirstRow, standIns := [], harness := (true, "487eb1cdc786b1a0920b0646a0d8287a4da6ae1c09800932899b2e2c2ad925d6"), looks := false }, kinds := [], alts := [], laidByText := true, laidKinds := [.data, .data, .data, .data], laidTests := true, laidLooks := .later }
def CmdFirstCardSaid : Prop := Claim7.holds Tryd.pinned (.plain (OpenSpec.ofChange cmdFirstSpec)) cmdFirstCard

/-- THE TIED CARD OF 'gessolaw12.CmdLines'. -/
def cmdLinesCard : Claim7 := { stood := { row := cmdLinesRow, standIns := [], harness := (true, "487eb1cdc786b1a0920b0646a0d8287a4da6ae1c09800932899b2e2c2ad925d6"), looks := false }, kinds := [], alts := [], laidByText := true, laidKinds := [.data, .data, .data, .data], laidTests := true, laidLooks := .later }
def CmdLinesCardSaid : Prop := Claim7.holds Tryd.pinned (.plain (OpenSpec.ofChange cmdLinesSpec)) cmdLinesCard

/-- THE SECOND FORM's CARD OF 'gessolaw11.PathTexts'. -/
def pathTextsUptoCard : Claim7 := { stood := { row := pathTextsUptoRow, standIns := [], harness := (true, "487eb1cdc786b1a0920b0646a0d8287a4da6ae1c09800932899b2e2c2ad925d6"), looks := false }, kinds := [], alts := [], laidByText := true, laidKinds := [.data, .data, .data, .data], laidTests := true, laidLooks := .later }
def PathTextsUptoCardSaid : Prop := Claim7.holds Tryd.pinned (.plain (OpenSpec.upto pathTextsSpec)) pathTextsUptoCard

/-- THE SECOND FORM's CARD OF 'gessolaw11.PathBack'. -/
def pathBackUptoCard : Claim7 := { stood := { row := pathBackUptoRow, standIns := [], harness := (true, "487eb1cdc786b1a0920b0646a0d8287a4da6ae1c09800932899b2e2c2ad925d6"), looks := false }, kinds := [], alts := [], laidByText := true, laidKinds := [.data, .data, .data, .data], laidTests := true, laidLooks := .later }
def PathBackUptoCardSaid : Prop := Claim7.holds Tryd.pinned (.plain (OpenSpec.upto pathBackSpec)) pathBackUptoCard

/-- THE SECOND FORM's CARD OF 'gessolaw11.PathSmall'. -/
def pathSmallUptoCard : Claim7 := { stood := { row := pathSmallUptoRow, standIns := [], harness := (true, "487eb1cdc786b1a0920b0646a0d8287a4da6ae1c09800932899b2e2c2ad925d6"), looks := false }, kinds := [], alts := [], laidByText := true, laidKinds := [.data, .data, .data, .data], laidTests := true, laidLooks := .later }
def PathSmallUptoCardSaid : Prop := Claim7.holds Tryd.pinned (.plain (OpenSpec.upto pathSmallSpec)) pathSmallUptoCard

/-- THE SECOND FORM's CARD OF 'gessolaw11.PathMirrors'. -/
def pathMirrorsUptoCard : Claim7 := { stood := { row := pathMirrorsUptoRow, standIns := [], harness := (true, "487eb1cdc786b1a0920b0646a0d8287a4da6ae1c09800932899b2e2c2ad925d6"), looks := false }, kinds := [], alts := [], laidByText := true, laidKinds := [.data, .data, .data, .data], laidTests := true, laidLooks := .later }
def PathMirrorsUptoCardSaid : Prop := Claim7.holds Tryd.pinned (.plain (OpenSpec.upto pathMirrorsSpec)) pathMirrorsUptoCard

/-- THE SECOND FORM's CARD OF 'gessolaw11.PathAgain'. -/
def pathAgainUptoCard : Claim7 := { stood := { row := pathAgainUptoRow, standIns := [], harness := (true, "487eb1cdc786b1a0920b0646a0d8287a4da6ae1c09800932899b2e2c2ad925d6"), looks := false }, kinds := [], alts := [], laidByText := true, laidKinds := [.data, .data, .data, .data], laidTests := true, laidLooks := .later }
def PathAgainUptoCardSaid : Prop := Claim7.holds Tryd.pinned (.plain (OpenSpec.upto pathAgainSpec)) pathAgainUptoCard

/-- THE SECOND FORM's CARD OF 'gessolaw12.CmdTexts'. -/
def cmdTextsUptoCard : Claim7 := { stood := { row := cmdTextsUptoRow, standIns := [], harness := (true, "487eb1cdc786b1a0920b0646a0d8287a4da6ae1c09800932899b2e2c2ad925d6"), looks := false }, kinds := [], alts := [], laidByText := true, laidKinds := [.data, .data, .data, .data], laidTests := true, laidLooks := .later }
def CmdTextsUptoCardSaid : Prop := Claim7.holds Tryd.pinned (.plain (OpenSpec.upto cmdTextsSpec)) cmdTextsUptoCard

/-- THE SECOND FORM's CARD OF 'gessolaw12.CmdBack'. -/
def cmdBackUptoCard : Claim7 := { stood := { row := cmdBackUptoRow, standIns := [], harness := (true, "487eb1cdc786b1a0920b0646a0d8287a4da6ae1c09800932899b2e2c2ad925d6"), looks := false }, kinds := [], alts := [], laidByText := true, laidKinds := [.data, .data, .data, .data], laidTests := true, laidLooks := .later }
def CmdBackUptoCardSaid : Prop := Claim7.holds Tryd.pinned (.plain (OpenSpec.upto cmdBackSpec)) cmdBackUptoCard

/-- THE SECOND FORM's CARD OF 'gessolaw12.CmdFirst'. -/
def cmdFirstUptoCard : Claim7 := { stood := { row := cmdFirstUptoRow, standIns := [], harness := (true, "487eb1cdc786b1a0920b0646a0d8287a4da6ae1c09800932899b2e2c2ad925d6"), looks := false }, kinds := [], alts := [], laidByText := true, laidKinds := [.data, .data, .data, .data], laidTests := true, laidLooks := .later }
def CmdFirstUptoCardSaid : Prop := Claim7.holds Tryd.pinned (.plain (OpenSpec.upto cmdFirstSpec)) cmdFirstUptoCard

/-- THE SECOND FORM's CARD OF 'gessolaw12.CmdLines'. -/
def cmdLinesUptoCard : Claim7 := { stood := { row := cmdLinesUptoRow, standIns := [], harness := (true, "487eb1cdc786b1a0920b0646a0d8287a4da6ae1c09800932899b2e2c2ad925d6"), looks := false }, kinds := [], alts := [], laidByText := true, laidKinds := [.data, .data, .data, .data], laidTests := true, laidLooks := .later }
def CmdLinesUptoCardSaid : Prop := Claim7.holds Tryd.pinned (.plain (OpenSpec.upto cmdLinesSpec)) cmdLinesUptoCard
end Rows
end Go.Proofs.YtefajplbgmikdaaDoor
