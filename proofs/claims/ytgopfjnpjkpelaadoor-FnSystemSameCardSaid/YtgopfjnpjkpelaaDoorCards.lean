/-
  DERIVED. GIVEN WITH THE SEED: THE CARDS: each row of YtgopfjnpjkpelaaDoorRows.lean that lists a variable, with what it lists TIED to the program's text (the seventh form; the later family's looks); each row that meets fmt, with fmt's text TOLD by the authors' own Lean function (tested against real Go, not proved from fmt's source: count such statements apart). THE CARD IS WHAT COUNTS. Prove the row's statement (the work); the ties are given (YtgopfjnpjkpelaaDoorTie.lean); close each card by the builder's one call (the guide's Derived/Test/ToyasCard.lean, 'card_holds'). Laid BY PROGRAM, IN A SANDBOX (cutbox-door.mjs). By AI agents, Wed Nov 11 2026. No macro, syntax, notation, axiom, sorry.
-/
import Derived.Test.YtgopfjnpjkpelaaDoorRows
import GoSem.ClaimSeven
namespace Go.Proofs.YtgopfjnpjkpelaaDoor
namespace Rows

/-- THE TIED CARD OF 'laws.FnSystemSame'. -/
def fnSystemSameCard : Claim7 := { stood := { row := fnSystemSameRow, standIns := [], harness := (true, "2e0a303b62d9de84a398d941abd6065d89f8f8f9b2378b6e31ea73c6b2e10050"), looks := false }, kinds := [], alts := [], laidByText := true, laidKinds := [.data, .data, .data, .data], laidTests := true, laidLooks := .later }
def FnSystemSameCardSaid : Prop := Claim7.holds Tryd.pinned (.plain (OpenSpec.ofChange fnSystemSameSpec)) fnSystemSameCard

/-- THE SECOND FORM's CARD OF 'laws.FnSystemSame'. -/
def fnSystemSameUptoCard : Claim7 := { stood := { row := fnSystemSameUptoRow, standIns := [], harness := (true, "2e0a303b62d9de84a398d941abd6065d89f8f8f9b2378b6e31ea73c6b2e10050"), looks := false }, kinds := [], alts := [], laidByText := true, laidKinds := [.data, .data, .data, .data], laidTests := true, laidLooks := .later }
def FnSystemSameUptoCardSaid : Prop := Claim7.holds Tryd.pinned (.plain (OpenSpec.upto fnSystemSameSpec)) fnSystemSameUptoCard
end Rows
end Go.Proofs.YtgopfjnpjkpelaaDoor
