/-
  DERIVED. GIVEN WITH THE SEED: THE CARDS: each row of YthdbkknbbppfnaaDoorRows.lean that lists a variable, with what it lists TIED to the program's text (the seventh form; the later family's looks); each row that meets fmt, with fmt's text TOLD by the authors' own Lean function (tested against real Go, not proved from fmt's source: count such statements apart). THE CARD IS WHAT COUNTS. Prove the row's statement (the work); the ties are given (YthdbkknbbppfnaaDoorTie.lean); close each card by the builder's one call (the guide's Derived/Test/ToyasCard.lean, 'card_holds'). Laid BY PROGRAM, IN A SANDBOX (cutbox-door.mjs). By AI agents, Wed Nov 11 2026. No macro, syntax, notation, axiom, sorry.
-/
import Derived.Test.YthdbkknbbppfnaaDoorRows
import GoSem.ClaimSeven
namespace Go.Proofs.YthdbkknbbppfnaaDoor
namespace Rows

/-- THE TIED CARD OF 'laws.FnFormulaText'. -/
def fnFormulaTextCard : Claim7 := { stood := { row := fnFormulaTextRow, standIns := [], harness := (true, "7dce25b0c7f5ec2c1922f672fde780ebc92b0e268357b74d8a8f3c779bd2f9b9"), looks := false }, kinds := [], alts := [], laidByText := true, laidKinds := [.data], laidTests := true, laidLooks := .later }
def FnFormulaTextCardSaid : Prop := Claim7.holds Tryd.pinned (.plain (OpenSpec.ofChange fnFormulaTextSpec)) fnFormulaTextCard

/-- THE SECOND FORM's CARD OF 'laws.FnFormulaText'. -/
def fnFormulaTextUptoCard : Claim7 := { stood := { row := fnFormulaTextUptoRow, standIns := [], harness := (true, "7dce25b0c7f5ec2c1922f672fde780ebc92b0e268357b74d8a8f3c779bd2f9b9"), looks := false }, kinds := [], alts := [], laidByText := true, laidKinds := [.data], laidTests := true, laidLooks := .later }
def FnFormulaTextUptoCardSaid : Prop := Claim7.holds Tryd.pinned (.plain (OpenSpec.upto fnFormulaTextSpec)) fnFormulaTextUptoCard
end Rows
end Go.Proofs.YthdbkknbbppfnaaDoor
