/-
  DERIVED. GIVEN WITH THE SEED: THE CARDS: each row of YtplogaapgolaiaaDoorRows.lean that lists a variable, with what it lists TIED to the program's text (the seventh form; the later family's looks); each row that meets fmt, with fmt's text TOLD by the authors' own Lean function (tested against real Go, not proved from fmt's source: count such statements apart). THE CARD IS WHAT COUNTS. Prove the row's statement (the work); the ties are given (YtplogaapgolaiaaDoorTie.lean); close each card by the builder's one call (the guide's Derived/Test/ToyasCard.lean, 'card_holds'). Laid BY PROGRAM, IN A SANDBOX (cutbox-door.mjs). By AI agents, Wed Nov 11 2026. No macro, syntax, notation, axiom, sorry.
-/
import Derived.Test.YtplogaapgolaiaaDoorRows
import GoSem.ClaimSeven
namespace Go.Proofs.YtplogaapgolaiaaDoor
namespace Rows

/-- THE TIED CARD OF 'laws.FnExprSame'. -/
def fnExprSameCard : Claim7 := { stood := { row := fnExprSameRow, standIns := [], harness := (true, "0288d5fd28b6de8a1a12e2fac40aa73803e6371583db653c06b4ea3e86997d59"), looks := false }, kinds := [], alts := [], laidByText := true, laidKinds := [.data, .data, .data, .data], laidTests := true, laidLooks := .later }
def FnExprSameCardSaid : Prop := Claim7.holds Tryd.pinned (.plain (OpenSpec.ofChange fnExprSameSpec)) fnExprSameCard

/-- THE TIED CARD OF 'laws.FnExprText'. -/
def fnExprTextCard : Claim7 := { stood := { row := fnExprTextRow, standIns := [], harness := (true, "0288d5fd28b6de8a1a12e2fac40aa73803e6371583db653c06b4ea3e86997d59"), looks := false }, kinds := [], alts := [], laidByText := true, laidKinds := [.data, .data, .data, .data], laidTests := true, laidLooks := .later }
def FnExprTextCardSaid : Prop := Claim7.holds Tryd.pinned (.plain (OpenSpec.ofChange fnExprTextSpec)) fnExprTextCard

/-- THE SECOND FORM's CARD OF 'laws.FnExprSame'. -/
def fnExprSameUptoCard : Claim7 := { stood := { row := fnExprSameUptoRow, standIns := [], harness := (true, "0288d5fd28b6de8a1a12e2fac40aa73803e6371583db653c06b4ea3e86997d59"), looks := false }, kinds := [], alts := [], laidByText := true, laidKinds := [.data, .data, .data, .data], laidTests := true, laidLooks := .later }
def FnExprSameUptoCardSaid : Prop := Claim7.holds Tryd.pinned (.plain (OpenSpec.upto fnExprSameSpec)) fnExprSameUptoCard

/-- THE SECOND FORM's CARD OF 'laws.FnExprText'. -/
def fnExprTextUptoCard : Claim7 := { stood := { row := fnExprTextUptoRow, standIns := [], harness := (true, "0288d5fd28b6de8a1a12e2fac40aa73803e6371583db653c06b4ea3e86997d59"), looks := false }, kinds := [], alts := [], laidByText := true, laidKinds := [.data, .data, .data, .data], laidTests := true, laidLooks := .later }
def FnExprTextUptoCardSaid : Prop := Claim7.holds Tryd.pinned (.plain (OpenSpec.upto fnExprTextSpec)) fnExprTextUptoCard
end Rows
end Go.Proofs.YtplogaapgolaiaaDoor
