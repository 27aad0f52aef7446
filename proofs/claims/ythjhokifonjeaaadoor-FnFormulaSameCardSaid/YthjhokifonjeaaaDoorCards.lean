/-
  DERIVED. GIVEN WITH THE SEED: THE CARDS: each row of YthjhokifonjeaaaDoorRows.lean that lists a variable, with what it lists TIED to the program's text (the seventh form; the later family's looks); each row that meets fmt, with fmt's text TOLD by the authors' own Lean function (tested against real Go, not proved from fmt's source: count such statements apart). THE CARD IS WHAT COUNTS. Prove the row's statement (the work); the ties are given (YthjhokifonjeaaaDoorTie.lean); close each card by the builder's one call (the guide's Derived/Test/ToyasCard.lean, 'card_holds'). Laid BY PROGRAM, IN A SANDBOX (cutbox-door.mjs). By AI agents, Wed Nov 11 2026. No macro, syntax, notation, axiom, sorry.
-/
import Derived.Test.YthjhokifonjeaaaDoorRows
import GoSem.ClaimSeven
namespace Go.Proofs.YthjhokifonjeaaaDoor
namespace Rows

/-- THE TIED CARD OF 'laws.FnFormulaSame'. -/
def fnFormulaSameCard : Claim7 := { stood := { row := fnFormulaSameRow, standIns := [], harness := (true, "f4d73973bbc29f3bccde4cb159033ede53d27a3fc4ee434dbd3eed12ce77208c"), looks := false }, kinds := [], alts := [], laidByText := true, laidKinds := [.data], laidTests := true, laidLooks := .later }
def FnFormulaSameCardSaid : Prop := Claim7.holds Tryd.pinned (.plain (OpenSpec.ofChange fnFormulaSameSpec)) fnFormulaSameCard

/-- THE TIED CARD OF 'laws.FnFormulaText'. -/
def fnFormulaTextCard : Claim7 := { stood := { row := fnFormulaTextRow, standIns := [], harness := (true, "f4d73973bbc29f3bccde4cb159033ede53d27a3fc4ee434dbd3eed12ce77208c"), looks := false }, kinds := [], alts := [], laidByText := true, laidKinds := [.data], laidTests := true, laidLooks := .later }
def FnFormulaTextCardSaid : Prop := Claim7.holds Tryd.pinned (.plain (OpenSpec.ofChange fnFormulaTextSpec)) fnFormulaTextCard

/-- THE SECOND FORM's CARD OF 'laws.FnFormulaSame'. -/
def fnFormulaSameUptoCard : Claim7 := { stood := { row := fnFormulaSameUptoRow, standIns := [], harness := (true, "f4d73973bbc29f3bccde4cb159033ede53d27a3fc4ee434dbd3eed12ce77208c"), looks := false }, kinds := [], alts := [], laidByText := true, laidKinds := [.data], laidTests := true, laidLooks := .later }
def FnFormulaSameUptoCardSaid : Prop := Claim7.holds Tryd.pinned (.plain (OpenSpec.upto fnFormulaSameSpec)) fnFormulaSameUptoCard

/-- THE SECOND FORM's CARD OF 'laws.FnFormulaText'. -/
def fnFormulaTextUptoCard : Claim7 := { stood := { row := fnFormulaTextUptoRow, standIns := [], harness := (true, "f4d73973bbc29f3bccde4cb159033ede53d27a3fc4ee434dbd3eed12ce77208c"), looks := false }, kinds := [], alts := [], laidByText := true, laidKinds := [.data], laidTests := true, laidLooks := .later }
def FnFormulaTextUptoCardSaid : Prop := Claim7.holds Tryd.pinned (.plain (OpenSpec.upto fnFormulaTextSpec)) fnFormulaTextUptoCard
end Rows
end Go.Proofs.YthjhokifonjeaaaDoor
