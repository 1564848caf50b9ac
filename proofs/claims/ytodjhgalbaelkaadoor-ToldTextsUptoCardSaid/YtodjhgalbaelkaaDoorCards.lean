/-
  DERIVED. GIVEN WITH THE SEED: THE CARDS: each row of YtodjhgalbaelkaaDoorRows.lean that lists a variable, with what it lists TIED to the program's text (the seventh form; the later family's looks); each row that meets fmt, with fmt's text TOLD by the authors' own Lean function (tested against real Go, not proved from fmt's source: count such statements apart). THE CARD IS WHAT COUNTS. Prove the row's statement (the work); the ties are given (YtodjhgalbaelkaaDoorTie.lean); close each card by the builder's one call (the guide's Derived/Test/ToyasCard.lean, 'card_holds'). Laid BY PROGRAM, IN A SANDBOX (cutbox-door.mjs). By AI agents, Wed Nov 11 2026. No macro, syntax, notation, axiom, sorry.
-/
import Derived.Test.YtodjhgalbaelkaaDoorRows
import GoSem.ClaimSeven
namespace Go.Proofs.YtodjhgalbaelkaaDoor
namespace Rows

/-- THE TIED CARD OF 'regletlaw24.ToldHalves'. -/
def toldHalvesCard : Claim7 := { stood := { row := toldHalvesRow, standIns := [], harness := (true, "0387e6a1ef5b8dd4c9334d32d773ca037286b70ffe3cb4deca19bdb57cfa3a33"), looks := false }, kinds := [], alts := [], laidByText := true, laidKinds := [.data, .data, .data, .data, .pinned], laidTests := true, laidLooks := .later }
def ToldHalvesCardSaid : Prop := Claim7.holds Tryd.pinned (.plain (OpenSpec.ofChange toldHalvesSpec)) toldHalvesCard

/-- THE TIED CARD OF 'regletlaw24.ToldTexts'. -/
def toldTextsCard : Claim7 := { stood := { row := toldTextsRow, standIns := [], harness := (true, "0387e6a1ef5b8dd4c9334d32d773ca037286b70ffe3cb4deca19bdb57cfa3a33"), looks := false }, kinds := [], alts := [], laidByText := true, laidKinds := [.data, .data, .data, .data, .pinned], laidTests := true, laidLooks := .later }
def ToldTextsCardSaid : Prop := Claim7.holds Tryd.pinned (.plain (OpenSpec.ofChange toldTextsSpec)) toldTextsCard

/-- THE TIED CARD OF 'regletlaw24.ToldBack'. -/
def toldBackCard : Claim7 := { stood := { row := toldBackRow, standIns := [], harness := (true, "0387e6a1ef5b8dd4c9334d32d773ca037286b70ffe3cb4deca19bdb57cfa3a33"), looks := false }, kinds := [], alts := [], laidByText := true, laidKinds := [.data, .data, .data, .data, .pinned], laidTests := true, laidLooks := .later }
def ToldBackCardSaid : Prop := Claim7.holds Tryd.pinned (.plain (OpenSpec.ofChange toldBackSpec)) toldBackCard

/-- THE TIED CARD OF 'regletlaw24.ToldJoins'. -/
def toldJoinsCard : Claim7 := { stood := { row := toldJoinsRow, standIns := [], harness := (true, "0387e6a1ef5b8dd4c9334d32d773ca037286b70ffe3cb4deca19bdb57cfa3a33"), looks := false }, kinds := [], alts := [], laidByText := true, laidKinds := [.data, .data, .data, .data, .pinned], laidTests := true, laidLooks := .later }
def ToldJoinsCardSaid : Prop := Claim7.holds Tryd.pinned (.plain (OpenSpec.ofChange toldJoinsSpec)) toldJoinsCard

/-- THE SECOND FORM's CARD OF 'regletlaw24.ToldHalves'. -/
def toldHalvesUptoCard : Claim7 := { stood := { row := toldHalvesUptoRow, standIns := [], harness := (true, "0387e6a1ef5b8dd4c9334d32d773ca037286b70ffe3cb4deca19bdb57cfa3a33"), looks := false }, kinds := [], alts := [], laidByText := true, laidKinds := [.data, .data, .data, .data, .pinned], laidTests := true, laidLooks := .later }
def ToldHalvesUptoCardSaid : Prop := Claim7.holds Tryd.pinned (.plain (OpenSpec.upto toldHalvesSpec)) toldHalvesUptoCard

/-- THE SECOND FORM's CARD OF 'regletlaw24.ToldTexts'. -/
def toldTextsUptoCard : Claim7 := { stood := { row := toldTextsUptoRow, standIns := [], harness := (true, "0387e6a1ef5b8dd4c9334d32d773ca037286b70ffe3cb4deca19bdb57cfa3a33"), looks := false }, kinds := [], alts := [], laidByText := true, laidKinds := [.data, .data, .data, .data, .pinned], laidTests := true, laidLooks := .later }
def ToldTextsUptoCardSaid : Prop := Claim7.holds Tryd.pinned (.plain (OpenSpec.upto toldTextsSpec)) toldTextsUptoCard

/-- THE SECOND FORM's CARD OF 'regletlaw24.ToldBack'. -/
def toldBackUptoCard : Claim7 := { stood := { row := toldBackUptoRow, standIns := [], harness := (true, "0387e6a1ef5b8dd4c9334d32d773ca037286b70ffe3cb4deca19bdb57cfa3a33"), looks := false }, kinds := [], alts := [], laidByText := true, laidKinds := [.data, .data, .data, .data, .pinned], laidTests := true, laidLooks := .later }
def ToldBackUptoCardSaid : Prop := Claim7.holds Tryd.pinned (.plain (OpenSpec.upto toldBackSpec)) toldBackUptoCard

/-- THE SECOND FORM's CARD OF 'regletlaw24.ToldJoins'. -/
def toldJoinsUptoCard : Claim7 := { stood := { row := toldJoinsUptoRow, standIns := [], harness := (true, "0387e6a1ef5b8dd4c9334d32d773ca037286b70ffe3cb4deca19bdb57cfa3a33"), looks := false }, kinds := [], alts := [], laidByText := true, laidKinds := [.data, .data, .data, .data, .pinned], laidTests := true, laidLooks := .later }
def ToldJoinsUptoCardSaid : Prop := Claim7.holds Tryd.pinned (.plain (OpenSpec.upto toldJoinsSpec)) toldJoinsUptoCard
end Rows
end Go.Proofs.YtodjhgalbaelkaaDoor
