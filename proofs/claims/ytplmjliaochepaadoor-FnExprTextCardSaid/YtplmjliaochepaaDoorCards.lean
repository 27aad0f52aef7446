/-
  DERIVED. GIVEN WITH THE SEED: THE CARDS: each row of YtplmjliaochepaaDoorRows.lean that lists a variable, with what it lists TIED to the program's text (the seventh form; the later family's looks); each row that meets fmt, with fmt's text TOLD by the authors' own Lean function (tested against real Go, not proved from fmt's source: count such statements apart). THE CARD IS WHAT COUNTS. Prove the row's statement (the work); the ties are given (YtplmjliaochepaaDoorTie.lean); close each card by the builder's one call (the guide's Derived/Test/ToyasCard.lean, 'card_holds'). Laid BY PROGRAM, IN A SANDBOX (cutbox-door.mjs). By AI agents, Wed Nov 11 2026. No macro, syntax, notation, axiom, sorry.
-/
import Derived.Test.YtplmjliaochepaaDoorRows
import GoSem.ClaimSeven
namespace Go.Proofs.YtplmjliaochepaaDoor
namespace Rows

/-- THE TIED CARD OF 'laws.FnExprText'. -/
def fnExprTextCard : Claim7 := { stood := { row := fnExprTextRow, standIns := [], harness := (true, "7766152a022a5d052a43e84282fa80e79ad45a27fc3d9e88655c5148eeaa5461"), looks := false }, kinds := [], alts := [], laidByText := true, laidKinds := [.data, .data, .data, .data], laidTests := true, laidLooks := .later }
def FnExprTextCardSaid : Prop := Claim7.holds Tryd.pinned (.plain (OpenSpec.ofChange fnExprTextSpec)) fnExprTextCard

/-- THE SECOND FORM's CARD OF 'laws.FnExprText'. -/
def fnExprTextUptoCard : Claim7 := { stood := { row := fnExprTextUptoRow, standIns := [], harness := (true, "7766152a022a5d052a43e84282fa80e79ad45a27fc3d9e88655c5148eeaa5461"), looks := false }, kinds := [], alts := [], laidByText := true, laidKinds := [.data, .data, .data, .data], laidTests := true, laidLooks := .later }
def FnExprTextUptoCardSaid : Prop := Claim7.holds Tryd.pinned (.plain (OpenSpec.upto fnExprTextSpec)) fnExprTextUptoCard
end Rows
end Go.Proofs.YtplmjliaochepaaDoor
