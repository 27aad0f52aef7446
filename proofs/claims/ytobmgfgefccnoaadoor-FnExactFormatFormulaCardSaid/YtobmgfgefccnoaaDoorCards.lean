/-
  DERIVED. GIVEN WITH THE SEED: THE CARDS: each row of YtobmgfgefccnoaaDoorRows.lean that lists a variable, with what it lists TIED to the program's text (the seventh form; the later family's looks); each row that meets fmt, with fmt's text TOLD by the authors' own Lean function (tested against real Go, not proved from fmt's source: count such statements apart). THE CARD IS WHAT COUNTS. Prove the row's statement (the work); the ties are given (YtobmgfgefccnoaaDoorTie.lean); close each card by the builder's one call (the guide's Derived/Test/ToyasCard.lean, 'card_holds'). Laid BY PROGRAM, IN A SANDBOX (cutbox-door.mjs). By AI agents, Wed Nov 11 2026. No macro, syntax, notation, axiom, sorry.
-/
import Derived.Test.YtobmgfgefccnoaaDoorRows
import GoSem.ClaimSeven
namespace Go.Proofs.YtobmgfgefccnoaaDoor
namespace Rows

/-- THE TIED CARD OF 'laws.FnExactFormatFormula'. -/
def fnExactFormatFormulaCard : Claim7 := { stood := { row := fnExactFormatFormulaRow, standIns := [], harness := (true, "c4cff019a2ce34f088df8d6ab4a0a5e59ee585e4e64a03a33570d2256bc4a3af"), looks := false }, kinds := [], alts := [], laidByText := true, laidKinds := [.data], laidTests := true, laidLooks := .later }
def FnExactFormatFormulaCardSaid : Prop := Claim7.holds Tryd.pinned (.plain (OpenSpec.ofChange fnExactFormatFormulaSpec)) fnExactFormatFormulaCard

/-- THE SECOND FORM's CARD OF 'laws.FnExactFormatFormula'. -/
def fnExactFormatFormulaUptoCard : Claim7 := { stood := { row := fnExactFormatFormulaUptoRow, standIns := [], harness := (true, "c4cff019a2ce34f088df8d6ab4a0a5e59ee585e4e64a03a33570d2256bc4a3af"), looks := false }, kinds := [], alts := [], laidByText := true, laidKinds := [.data], laidTests := true, laidLooks := .later }
def FnExactFormatFormulaUptoCardSaid : Prop := Claim7.holds Tryd.pinned (.plain (OpenSpec.upto fnExactFormatFormulaSpec)) fnExactFormatFormulaUptoCard
end Rows
end Go.Proofs.YtobmgfgefccnoaaDoor
