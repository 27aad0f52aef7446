/-
  NARROWER THAN 'FOR EVERY INPUT', by the rows' own cells (each row's printed sentence says how): FnExactFormulaNodes: loops · FnExactNegateFormula: loops · FnExactSubformulas: loops · FnExactNormalForm: loops · FnExactBasicFormulas: loops · FnExactFormatBranching: loops.
  DERIVED. THE GIVEN ROWS OF THIS SEAT. 8 by the template 'for every input the law returns true; each argument reads behind the call as it read before'; 0 by the template 'total and deterministic' (their statements: YtobmgfgefccnoaaTotals.lean).
  GIVEN WITH THE SEED: the statements are not yours to turn. If you find one false, say at which input.
  Laid BY PROGRAM, IN A SANDBOX (cutbox-rows.mjs): the forced cells as the released guide's own fill.sh prints them over the translation 2e9dceeb314e995a… (all of the seat's roots in one cut). By AI agents, Wed Nov 11 2026. No macro, syntax, notation, axiom, sorry.
-/
import Derived.Test.YtobmgfgefccnoaaChecked
import GoSem.Claim
import GoSem.ClaimJoined
import GoSem.ClaimMapViews
import Derived.JoinedTies
import Derived.KernelRfl
namespace Go.Proofs.Ytobmgfgefccnoaa
/- THE CELL 'sum', in the pinned program and in every row, IS THE sha256 OF THE DUMP (.gsa) THAT YtobmgfgefccnoaaProg.lean LOADS. Nothing in Lean hashes anything: it is a label: what it is worth is what the hold of that sum in a sandbox is worth. -/
noncomputable def Try.pinned : Pinned := { name := "ytobmgfgefccnoaa", sum := "2e9dceeb314e995a163e3d96ca0f57961a4a58008d4241294144ce74274e16e6", checked := Try.checked }
namespace Rows
def none {H : Type} : Left H := { results := [], args := [] }

/-- 'laws.FnExactFormulaNodes': WHATEVER THE INPUT: true; the input reads as it did. -/
def fnExactFormulaNodesSpec : ChangeSpec := { name := "fnExactFormulaNodes", fn := fun _ => fun
  | [d] => { results := [.lit (.bool true)], args := [d] }
  | _ => none }
def fnExactFormulaNodesRow : OpenClaim := { program := "ytobmgfgefccnoaa", sum := "2e9dceeb314e995a163e3d96ca0f57961a4a58008d4241294144ce74274e16e6", func := "loop.example/ltlcheck/laws.FnExactFormulaNodes", spec := "fnExactFormulaNodes", unfollowed := true, recurses := true, loops := true, apart := false }
def FnExactFormulaNodesSaid : Prop := fnExactFormulaNodesRow.holds Try.pinned (OpenSpec.ofChange fnExactFormulaNodesSpec)

/-- ITS FALSE NEIGHBOUR: 'it returns false'. Refute it at one input. -/
def fnExactFormulaNodesWrong : ChangeSpec := { name := "fnExactFormulaNodes", fn := fun _ => fun
  | [d] => { results := [.lit (.bool false)], args := [d] }
  | _ => none }
def FnExactFormulaNodesWrongFalsely : Prop := fnExactFormulaNodesRow.holds Try.pinned (OpenSpec.ofChange fnExactFormulaNodesWrong)

/-- 'laws.FnExactNegateFormula': WHATEVER THE INPUT: true; the input reads as it did. -/
def fnExactNegateFormulaSpec : ChangeSpec := { name := "fnExactNegateFormula", fn := fun _ => fun
  | [d] => { results := [.lit (.bool true)], args := [d] }
  | _ => none }
def fnExactNegateFormulaRow : OpenClaim := { program := "ytobmgfgefccnoaa", sum := "2e9dceeb314e995a163e3d96ca0f57961a4a58008d4241294144ce74274e16e6", func := "loop.example/ltlcheck/laws.FnExactNegateFormula", spec := "fnExactNegateFormula", unfollowed := true, recurses := true, loops := true, apart := false }
def FnExactNegateFormulaSaid : Prop := fnExactNegateFormulaRow.holds Try.pinned (OpenSpec.ofChange fnExactNegateFormulaSpec)

/-- ITS FALSE NEIGHBOUR: 'it returns false'. Refute it at one input. -/
def fnExactNegateFormulaWrong : ChangeSpec := { name := "fnExactNegateFormula", fn := fun _ => fun
  | [d] => { results := [.lit (.bool false)], args := [d] }
  | _ => none }
def FnExactNegateFormulaWrongFalsely : Prop := fnExactNegateFormulaRow.holds Try.pinned (OpenSpec.ofChange fnExactNegateFormulaWrong)

/-- 'laws.FnExactSubformulas': WHATEVER THE INPUT: true; the input reads as it did. -/
def fnExactSubformulasSpec : ChangeSpec := { name := "fnExactSubformulas", fn := fun _ => fun
  | [d] => { results := [.lit (.bool true)], args := [d] }
  | _ => none }
def fnExactSubformulasRow : OpenClaim := { program := "ytobmgfgefccnoaa", sum := "2e9dceeb314e995a163e3d96ca0f57961a4a58008d4241294144ce74274e16e6", func := "loop.example/ltlcheck/laws.FnExactSubformulas", spec := "fnExactSubformulas", unfollowed := true, recurses := true, loops := true, apart := false }
def FnExactSubformulasSaid : Prop := fnExactSubformulasRow.holds Try.pinned (OpenSpec.ofChange fnExactSubformulasSpec)

/-- ITS FALSE NEIGHBOUR: 'it returns false'. Refute it at one input. -/
def fnExactSubformulasWrong : ChangeSpec := { name := "fnExactSubformulas", fn := fun _ => fun
  | [d] => { results := [.lit (.bool false)], args := [d] }
  | _ => none }
def FnExactSubformulasWrongFalsely : Prop := fnExactSubformulasRow.holds Try.pinned (OpenSpec.ofChange fnExactSubformulasWrong)

/-- 'laws.FnExactParseFormula': WHATEVER THE INPUT: true; the input reads as it did. -/
def fnExactParseFormulaSpec : ChangeSpec := { name := "fnExactParseFormula", fn := fun _ => fun
  | [d] => { results := [.lit (.bool true)], args := [d] }
  | _ => none }
def fnExactParseFormulaRow : OpenClaim := { program := "ytobmgfgefccnoaa", sum := "2e9dceeb314e995a163e3d96ca0f57961a4a58008d4241294144ce74274e16e6", func := "loop.example/ltlcheck/laws.FnExactParseFormula", spec := "fnExactParseFormula", inPlace := ["internal/bytealg.IndexByteString"], unfollowed := true, recurses := true, apart := false }
def FnExactParseFormulaSaid : Prop := fnExactParseFormulaRow.holds Try.pinned (OpenSpec.ofChange fnExactParseFormulaSpec)

/-- ITS FALSE NEIGHBOUR: 'it returns false'. Refute it at one input. -/
def fnExactParseFormulaWrong : ChangeSpec := { name := "fnExactParseFormula", fn := fun _ => fun
  | [d] => { results := [.lit (.bool false)], args := [d] }
  | _ => none }
def FnExactParseFormulaWrongFalsely : Prop := fnExactParseFormulaRow.holds Try.pinned (OpenSpec.ofChange fnExactParseFormulaWrong)

/-- 'laws.FnExactNormalForm': WHATEVER THE INPUT: true; the input reads as it did. -/
def fnExactNormalFormSpec : ChangeSpec := { name := "fnExactNormalForm", fn := fun _ => fun
  | [d] => { results := [.lit (.bool true)], args := [d] }
  | _ => none }
def fnExactNormalFormRow : OpenClaim := { program := "ytobmgfgefccnoaa", sum := "2e9dceeb314e995a163e3d96ca0f57961a4a58008d4241294144ce74274e16e6", func := "loop.example/ltlcheck/laws.FnExactNormalForm", spec := "fnExactNormalForm", unfollowed := true, recurses := true, loops := true, apart := false }
def FnExactNormalFormSaid : Prop := fnExactNormalFormRow.holds Try.pinned (OpenSpec.ofChange fnExactNormalFormSpec)

/-- ITS FALSE NEIGHBOUR: 'it returns false'. Refute it at one input. -/
def fnExactNormalFormWrong : ChangeSpec := { name := "fnExactNormalForm", fn := fun _ => fun
  | [d] => { results := [.lit (.bool false)], args := [d] }
  | _ => none }
def FnExactNormalFormWrongFalsely : Prop := fnExactNormalFormRow.holds Try.pinned (OpenSpec.ofChange fnExactNormalFormWrong)

/-- 'laws.FnExactBasicFormulas': WHATEVER THE INPUT: true; the input reads as it did. -/
def fnExactBasicFormulasSpec : ChangeSpec := { name := "fnExactBasicFormulas", fn := fun _ => fun
  | [d] => { results := [.lit (.bool true)], args := [d] }
  | _ => none }
def fnExactBasicFormulasRow : OpenClaim := { program := "ytobmgfgefccnoaa", sum := "2e9dceeb314e995a163e3d96ca0f57961a4a58008d4241294144ce74274e16e6", func := "loop.example/ltlcheck/laws.FnExactBasicFormulas", spec := "fnExactBasicFormulas", unfollowed := true, recurses := true, loops := true, apart := false }
def FnExactBasicFormulasSaid : Prop := fnExactBasicFormulasRow.holds Try.pinned (OpenSpec.ofChange fnExactBasicFormulasSpec)

/-- ITS FALSE NEIGHBOUR: 'it returns false'. Refute it at one input. -/
def fnExactBasicFormulasWrong : ChangeSpec := { name := "fnExactBasicFormulas", fn := fun _ => fun
  | [d] => { results := [.lit (.bool false)], args := [d] }
  | _ => none }
def FnExactBasicFormulasWrongFalsely : Prop := fnExactBasicFormulasRow.holds Try.pinned (OpenSpec.ofChange fnExactBasicFormulasWrong)

/-- 'laws.FnExactFormatBranching': WHATEVER THE INPUT: true; the input reads as it did. -/
def fnExactFormatBranchingSpec : ChangeSpec := { name := "fnExactFormatBranching", fn := fun _ => fun
  | [d] => { results := [.lit (.bool true)], args := [d] }
  | _ => none }
def fnExactFormatBranchingRow : OpenClaim := { program := "ytobmgfgefccnoaa", sum := "2e9dceeb314e995a163e3d96ca0f57961a4a58008d4241294144ce74274e16e6", func := "loop.example/ltlcheck/laws.FnExactFormatBranching", spec := "fnExactFormatBranching", unfollowed := true, recurses := true, loops := true, apart := false }
def FnExactFormatBranchingSaid : Prop := fnExactFormatBranchingRow.holds Try.pinned (OpenSpec.ofChange fnExactFormatBranchingSpec)

/-- ITS FALSE NEIGHBOUR: 'it returns false'. Refute it at one input. -/
def fnExactFormatBranchingWrong : ChangeSpec := { name := "fnExactFormatBranching", fn := fun _ => fun
  | [d] => { results := [.lit (.bool false)], args := [d] }
  | _ => none }
def FnExactFormatBranchingWrongFalsely : Prop := fnExactFormatBranchingRow.holds Try.pinned (OpenSpec.ofChange fnExactFormatBranchingWrong)

/-- 'laws.FnExactParseBranching': WHATEVER THE INPUT: true; the input reads as it did. -/
def fnExactParseBranchingSpec : ChangeSpec := { name := "fnExactParseBranching", fn := fun _ => fun
  | [d] => { results := [.lit (.bool true)], args := [d] }
  | _ => none }
def fnExactParseBranchingRow : OpenClaim := { program := "ytobmgfgefccnoaa", sum := "2e9dceeb314e995a163e3d96ca0f57961a4a58008d4241294144ce74274e16e6", func := "loop.example/ltlcheck/laws.FnExactParseBranching", spec := "fnExactParseBranching", inPlace := ["internal/bytealg.IndexByteString"], unfollowed := true, recurses := true, apart := false }
def FnExactParseBranchingSaid : Prop := fnExactParseBranchingRow.holds Try.pinned (OpenSpec.ofChange fnExactParseBranchingSpec)

/-- ITS FALSE NEIGHBOUR: 'it returns false'. Refute it at one input. -/
def fnExactParseBranchingWrong : ChangeSpec := { name := "fnExactParseBranching", fn := fun _ => fun
  | [d] => { results := [.lit (.bool false)], args := [d] }
  | _ => none }
def FnExactParseBranchingWrongFalsely : Prop := fnExactParseBranchingRow.holds Try.pinned (OpenSpec.ofChange fnExactParseBranchingWrong)

/- THE SECOND FORM. 'bulk': how many values and letters a reading holds, each counted each time it is reached (what is shared counts as often as it is met; a slice's spare places count too). A statement '..UptoSaid' is the law's where the arguments, and the package variables that the reading takes, are together of bulk at most 1048576: NARROWER than '..Said'. Prove '..Said' where nothing that the law and all that it calls make is longer than what came in: it says more and counts as full. Else prove '..UptoSaid'. A law counts once. -/
mutual
def uptoBulk {H : Type} : DataW H → Nat
  | .lit (.string bytes) => bytes.length + 1
  | .lit _ => 1
  | .nil => 1
  | .ptr d => uptoBulk d + 1
  | .slice elems spare => uptoBulkAll elems + uptoBulkAll spare + 1
  | .agg parts => uptoBulkAll parts + 1
  | .iface _ d => uptoBulk d + 1
  | .map entries => uptoBulkEntries entries + 1
  | .held _ => 1
def uptoBulkAll {H : Type} : List (DataW H) → Nat
  | [] => 0
  | d :: r => uptoBulk d + uptoBulkAll r
def uptoBulkEntries {H : Type} : List (Lit × DataW H) → Nat
  | [] => 0
  | x :: r => uptoBulkEntry x + uptoBulkEntries r
def uptoBulkEntry {H : Type} : Lit × DataW H → Nat
  | (.string bytes, d) => bytes.length + uptoBulk d + 1
  | (_, d) => uptoBulk d + 1
 end
def uptoSmall : (H : Type) → List (DataW H) → Bool := fun _ ds => decide (uptoBulkAll ds ≤ 1048576)
def OpenSpec.upto (s : _root_.Go.ChangeSpec) : _root_.Go.OpenSpec := { _root_.Go.OpenSpec.ofChange s with cond := some uptoSmall }

/-- 'laws.FnExactFormulaNodes', WHERE WHAT IT READS IS OF BULK AT MOST 1048576: true; the input reads as it did. -/
def fnExactFormulaNodesUptoRow : OpenClaim := { program := "ytobmgfgefccnoaa", sum := "2e9dceeb314e995a163e3d96ca0f57961a4a58008d4241294144ce74274e16e6", func := "loop.example/ltlcheck/laws.FnExactFormulaNodes", spec := "fnExactFormulaNodes", unfollowed := true, recurses := true, loops := true, apart := false, narrowed := true }
def FnExactFormulaNodesUptoSaid : Prop := fnExactFormulaNodesUptoRow.holds Try.pinned (OpenSpec.upto fnExactFormulaNodesSpec)

/-- 'laws.FnExactNegateFormula', WHERE WHAT IT READS IS OF BULK AT MOST 1048576: true; the input reads as it did. -/
def fnExactNegateFormulaUptoRow : OpenClaim := { program := "ytobmgfgefccnoaa", sum := "2e9dceeb314e995a163e3d96ca0f57961a4a58008d4241294144ce74274e16e6", func := "loop.example/ltlcheck/laws.FnExactNegateFormula", spec := "fnExactNegateFormula", unfollowed := true, recurses := true, loops := true, apart := false, narrowed := true }
def FnExactNegateFormulaUptoSaid : Prop := fnExactNegateFormulaUptoRow.holds Try.pinned (OpenSpec.upto fnExactNegateFormulaSpec)

/-- 'laws.FnExactSubformulas', WHERE WHAT IT READS IS OF BULK AT MOST 1048576: true; the input reads as it did. -/
def fnExactSubformulasUptoRow : OpenClaim := { program := "ytobmgfgefccnoaa", sum := "2e9dceeb314e995a163e3d96ca0f57961a4a58008d4241294144ce74274e16e6", func := "loop.example/ltlcheck/laws.FnExactSubformulas", spec := "fnExactSubformulas", unfollowed := true, recurses := true, loops := true, apart := false, narrowed := true }
def FnExactSubformulasUptoSaid : Prop := fnExactSubformulasUptoRow.holds Try.pinned (OpenSpec.upto fnExactSubformulasSpec)

/-- 'laws.FnExactParseFormula', WHERE WHAT IT READS IS OF BULK AT MOST 1048576: true; the input reads as it did. -/
def fnExactParseFormulaUptoRow : OpenClaim := { program := "ytobmgfgefccnoaa", sum := "2e9dceeb314e995a163e3d96ca0f57961a4a58008d4241294144ce74274e16e6", func := "loop.example/ltlcheck/laws.FnExactParseFormula", spec := "fnExactParseFormula", inPlace := ["internal/bytealg.IndexByteString"], unfollowed := true, recurses := true, apart := false, narrowed := true }
def FnExactParseFormulaUptoSaid : Prop := fnExactParseFormulaUptoRow.holds Try.pinned (OpenSpec.upto fnExactParseFormulaSpec)

/-- 'laws.FnExactNormalForm', WHERE WHAT IT READS IS OF BULK AT MOST 1048576: true; the input reads as it did. -/
def fnExactNormalFormUptoRow : OpenClaim := { program := "ytobmgfgefccnoaa", sum := "2e9dceeb314e995a163e3d96ca0f57961a4a58008d4241294144ce74274e16e6", func := "loop.example/ltlcheck/laws.FnExactNormalForm", spec := "fnExactNormalForm", unfollowed := true, recurses := true, loops := true, apart := false, narrowed := true }
def FnExactNormalFormUptoSaid : Prop := fnExactNormalFormUptoRow.holds Try.pinned (OpenSpec.upto fnExactNormalFormSpec)

/-- 'laws.FnExactBasicFormulas', WHERE WHAT IT READS IS OF BULK AT MOST 1048576: true; the input reads as it did. -/
def fnExactBasicFormulasUptoRow : OpenClaim := { program := "ytobmgfgefccnoaa", sum := "2e9dceeb314e995a163e3d96ca0f57961a4a58008d4241294144ce74274e16e6", func := "loop.example/ltlcheck/laws.FnExactBasicFormulas", spec := "fnExactBasicFormulas", unfollowed := true, recurses := true, loops := true, apart := false, narrowed := true }
def FnExactBasicFormulasUptoSaid : Prop := fnExactBasicFormulasUptoRow.holds Try.pinned (OpenSpec.upto fnExactBasicFormulasSpec)

/-- 'laws.FnExactFormatBranching', WHERE WHAT IT READS IS OF BULK AT MOST 1048576: true; the input reads as it did. -/
def fnExactFormatBranchingUptoRow : OpenClaim := { program := "ytobmgfgefccnoaa", sum := "2e9dceeb314e995a163e3d96ca0f57961a4a58008d4241294144ce74274e16e6", func := "loop.example/ltlcheck/laws.FnExactFormatBranching", spec := "fnExactFormatBranching", unfollowed := true, recurses := true, loops := true, apart := false, narrowed := true }
def FnExactFormatBranchingUptoSaid : Prop := fnExactFormatBranchingUptoRow.holds Try.pinned (OpenSpec.upto fnExactFormatBranchingSpec)

/-- 'laws.FnExactParseBranching', WHERE WHAT IT READS IS OF BULK AT MOST 1048576: true; the input reads as it did. -/
def fnExactParseBranchingUptoRow : OpenClaim := { program := "ytobmgfgefccnoaa", sum := "2e9dceeb314e995a163e3d96ca0f57961a4a58008d4241294144ce74274e16e6", func := "loop.example/ltlcheck/laws.FnExactParseBranching", spec := "fnExactParseBranching", inPlace := ["internal/bytealg.IndexByteString"], unfollowed := true, recurses := true, apart := false, narrowed := true }
def FnExactParseBranchingUptoSaid : Prop := fnExactParseBranchingUptoRow.holds Try.pinned (OpenSpec.upto fnExactParseBranchingSpec)

end Rows
end Go.Proofs.Ytobmgfgefccnoaa
