/-
  DERIVED. GIVEN WITH THE SEED: THE CARDS: each row of YtbnhefibpjldfaaGreatDoorRows.lean that lists a variable, with what it lists TIED to the program's text (the seventh form; the later family's looks); each row that meets fmt, with fmt's text TOLD by the authors' own Lean function (tested against real Go, not proved from fmt's source: count such statements apart). THE CARD IS WHAT COUNTS. Prove the row's statement (the work); the ties are given (YtbnhefibpjldfaaGreatDoorTie.lean); close each card by the builder's one call (the guide's Derived/Test/ToyasCard.lean, 'card_holds'). Laid BY PROGRAM, IN A SANDBOX (cutbox-door.mjs). By AI agents, Wed Nov 11 2026. No macro, syntax, notation, axiom, sorry.
-/
import Derived.Test.YtbnhefibpjldfaaGreatDoorRows
import GoSem.ClaimSeven
namespace Go.Proofs.YtbnhefibpjldfaaGreatDoor
namespace Rows

/-- THE TIED CARD OF 'regletlaw21.PartMarks'. -/
def partMarksCard : Claim7 := { stood := { row := partMarksRow, standIns := [], harness := (true, "d6fef9a7c049e6a993ce632aaf0d11af8582e1066e3b86fc6ea8c66607355caf"), looks := false }, kinds := [], alts := [], laidByText := true, laidKinds := [.data, .pinned], laidTests := true, laidLooks := .later }
def PartMarksCardSaid : Prop := Claim7.holds Tryz.pinned (.plain (OpenSpec.ofChange partMarksSpec)) partMarksCard

/-- THE SECOND FORM's CARD OF 'regletlaw21.PartMarks'. -/
def partMarksUptoCard : Claim7 := { stood := { row := partMarksUptoRow, standIns := [], harness := (true, "d6fef9a7c049e6a993ce632aaf0d11af8582e1066e3b86fc6ea8c66607355caf"), looks := false }, kinds := [], alts := [], laidByText := true, laidKinds := [.data, .pinned], laidTests := true, laidLooks := .later }
def PartMarksUptoCardSaid : Prop := Claim7.holds Tryz.pinned (.plain (OpenSpec.upto partMarksSpec)) partMarksUptoCard
end Rows
end Go.Proofs.YtbnhefibpjldfaaGreatDoor
