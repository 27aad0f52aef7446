/-
  NARROWER THAN 'FOR EVERY INPUT', by the rows' own cells (each row's printed sentence says how): FnExactExprValid: loops · FnExactExprNodes: loops · FnExactExprVars: loops · FnExactSubstExpr: loops · FnExactEvalExpr: loops · FnExactLabelsValid: loops · FnExactLabelState: loops.
  DERIVED. THE GIVEN ROWS OF THIS SEAT. 8 by the template 'for every input the law returns true; each argument reads behind the call as it read before'; 0 by the template 'total and deterministic' (their statements: YtagbindamcfnoaaTotals.lean).
  GIVEN WITH THE SEED: the statements are not yours to turn. If you find one false, say at which input.
  Laid BY PROGRAM, IN A SANDBOX (cutbox-rows.mjs): the forced cells as the released guide's own fill.sh prints them over the translation 39e6754a5a5d0799… (all of the seat's roots in one cut). By AI agents, Wed Nov 11 2026. No macro, syntax, notation, axiom, sorry.
-/
import Derived.Test.YtagbindamcfnoaaChecked
import GoSem.Claim
import GoSem.ClaimJoined
import GoSem.ClaimMapViews
import Derived.JoinedTies
import Derived.KernelRfl
namespace Go.Proofs.Ytagbindamcfnoaa
/- THE CELL 'sum', in the pinned program and in every row, IS THE sha256 OF THE DUMP (.gsa) THAT YtagbindamcfnoaaProg.lean LOADS. Nothing in Lean hashes anything: it is a label: what it is worth is what the hold of that sum in a sandbox is worth. -/
noncomputable def Try.pinned : Pinned := { name := "ytagbindamcfnoaa", sum := "39e6754a5a5d0799b92b9745f0c6c668f5fbe61ed1966a7fdff87498d8299569", checked := Try.checked }
namespace Rows
def none {H : Type} : Left H := { results := [], args := [] }

/-- 'laws.FnExactExprValid': WHATEVER THE INPUT: true; the input reads as it did. -/
def fnExactExprValidSpec : ChangeSpec := { name := "fnExactExprValid", fn := fun _ => fun
  | [d] => { results := [.lit (.bool true)], args := [d] }
  | _ => none }
def fnExactExprValidRow : OpenClaim := { program := "ytagbindamcfnoaa", sum := "39e6754a5a5d0799b92b9745f0c6c668f5fbe61ed1966a7fdff87498d8299569", func := "loop.example/ltlcheck/laws.FnExactExprValid", spec := "fnExactExprValid", unfollowed := true, recurses := true, loops := true, apart := false }
def FnExactExprValidSaid : Prop := fnExactExprValidRow.holds Try.pinned (OpenSpec.ofChange fnExactExprValidSpec)

/-- ITS FALSE NEIGHBOUR: 'it returns false'. Refute it at one input. -/
def fnExactExprValidWrong : ChangeSpec := { name := "fnExactExprValid", fn := fun _ => fun
  | [d] => { results := [.lit (.bool false)], args := [d] }
  | _ => none }
def FnExactExprValidWrongFalsely : Prop := fnExactExprValidRow.holds Try.pinned (OpenSpec.ofChange fnExactExprValidWrong)

/-- 'laws.FnExactExprNodes': WHATEVER THE INPUT: true; the input reads as it did. -/
def fnExactExprNodesSpec : ChangeSpec := { name := "fnExactExprNodes", fn := fun _ => fun
  | [d] => { results := [.lit (.bool true)], args := [d] }
  | _ => none }
def fnExactExprNodesRow : OpenClaim := { program := "ytagbindamcfnoaa", sum := "39e6754a5a5d0799b92b9745f0c6c668f5fbe61ed1966a7fdff87498d8299569", func := "loop.example/ltlcheck/laws.FnExactExprNodes", spec := "fnExactExprNodes", unfollowed := true, recurses := true, loops := true, apart := false }
def FnExactExprNodesSaid : Prop := fnExactExprNodesRow.holds Try.pinned (OpenSpec.ofChange fnExactExprNodesSpec)

/-- ITS FALSE NEIGHBOUR: 'it returns false'. Refute it at one input. -/
def fnExactExprNodesWrong : ChangeSpec := { name := "fnExactExprNodes", fn := fun _ => fun
  | [d] => { results := [.lit (.bool false)], args := [d] }
  | _ => none }
def FnExactExprNodesWrongFalsely : Prop := fnExactExprNodesRow.holds Try.pinned (OpenSpec.ofChange fnExactExprNodesWrong)

/-- 'laws.FnExactExprVars': WHATEVER THE INPUT: true; the input reads as it did. -/
def fnExactExprVarsSpec : ChangeSpec := { name := "fnExactExprVars", fn := fun _ => fun
  | [d] => { results := [.lit (.bool true)], args := [d] }
  | _ => none }
def fnExactExprVarsRow : OpenClaim := { program := "ytagbindamcfnoaa", sum := "39e6754a5a5d0799b92b9745f0c6c668f5fbe61ed1966a7fdff87498d8299569", func := "loop.example/ltlcheck/laws.FnExactExprVars", spec := "fnExactExprVars", unfollowed := true, recurses := true, loops := true, apart := false }
def FnExactExprVarsSaid : Prop := fnExactExprVarsRow.holds Try.pinned (OpenSpec.ofChange fnExactExprVarsSpec)

/-- ITS FALSE NEIGHBOUR: 'it returns false'. Refute it at one input. -/
def fnExactExprVarsWrong : ChangeSpec := { name := "fnExactExprVars", fn := fun _ => fun
  | [d] => { results := [.lit (.bool false)], args := [d] }
  | _ => none }
def FnExactExprVarsWrongFalsely : Prop := fnExactExprVarsRow.holds Try.pinned (OpenSpec.ofChange fnExactExprVarsWrong)

/-- 'laws.FnExactSubstExpr': WHATEVER THE INPUT: true; the input reads as it did. -/
def fnExactSubstExprSpec : ChangeSpec := { name := "fnExactSubstExpr", fn := fun _ => fun
  | [d1, d2, d3] => { results := [.lit (.bool true)], args := [d1, d2, d3] }
  | _ => none }
def fnExactSubstExprRow : OpenClaim := { program := "ytagbindamcfnoaa", sum := "39e6754a5a5d0799b92b9745f0c6c668f5fbe61ed1966a7fdff87498d8299569", func := "loop.example/ltlcheck/laws.FnExactSubstExpr", spec := "fnExactSubstExpr", unfollowed := true, recurses := true, loops := true, apart := false }
def FnExactSubstExprSaid : Prop := fnExactSubstExprRow.holds Try.pinned (OpenSpec.ofChange fnExactSubstExprSpec)

/-- ITS FALSE NEIGHBOUR: 'it returns false'. Refute it at one input. -/
def fnExactSubstExprWrong : ChangeSpec := { name := "fnExactSubstExpr", fn := fun _ => fun
  | [d1, d2, d3] => { results := [.lit (.bool false)], args := [d1, d2, d3] }
  | _ => none }
def FnExactSubstExprWrongFalsely : Prop := fnExactSubstExprRow.holds Try.pinned (OpenSpec.ofChange fnExactSubstExprWrong)

/-- 'laws.FnExactEvalExpr': WHATEVER THE INPUT: true; the input reads as it did. -/
def fnExactEvalExprSpec : ChangeSpec := { name := "fnExactEvalExpr", fn := fun _ => fun
  | [d1, d2] => { results := [.lit (.bool true)], args := [d1, d2] }
  | _ => none }
def fnExactEvalExprRow : OpenClaim := { program := "ytagbindamcfnoaa", sum := "39e6754a5a5d0799b92b9745f0c6c668f5fbe61ed1966a7fdff87498d8299569", func := "loop.example/ltlcheck/laws.FnExactEvalExpr", spec := "fnExactEvalExpr", unfollowed := true, recurses := true, loops := true, apart := false }
def FnExactEvalExprSaid : Prop := fnExactEvalExprRow.holds Try.pinned (OpenSpec.ofChange fnExactEvalExprSpec)

/-- ITS FALSE NEIGHBOUR: 'it returns false'. Refute it at one input. -/
def fnExactEvalExprWrong : ChangeSpec := { name := "fnExactEvalExpr", fn := fun _ => fun
  | [d1, d2] => { results := [.lit (.bool false)], args := [d1, d2] }
  | _ => none }
def FnExactEvalExprWrongFalsely : Prop := fnExactEvalExprRow.holds Try.pinned (OpenSpec.ofChange fnExactEvalExprWrong)

/-- 'laws.FnExactParseExpr': WHATEVER THE INPUT: true; the input reads as it did. -/
def fnExactParseExprSpec : ChangeSpec := { name := "fnExactParseExpr", fn := fun _ => fun
  | [d] => { results := [.lit (.bool true)], args := [d] }
  | _ => none }
def fnExactParseExprRow : OpenClaim := { program := "ytagbindamcfnoaa", sum := "39e6754a5a5d0799b92b9745f0c6c668f5fbe61ed1966a7fdff87498d8299569", func := "loop.example/ltlcheck/laws.FnExactParseExpr", spec := "fnExactParseExpr", inPlace := ["internal/bytealg.IndexByteString"], unfollowed := true, recurses := true, apart := false }
def FnExactParseExprSaid : Prop := fnExactParseExprRow.holds Try.pinned (OpenSpec.ofChange fnExactParseExprSpec)

/-- ITS FALSE NEIGHBOUR: 'it returns false'. Refute it at one input. -/
def fnExactParseExprWrong : ChangeSpec := { name := "fnExactParseExpr", fn := fun _ => fun
  | [d] => { results := [.lit (.bool false)], args := [d] }
  | _ => none }
def FnExactParseExprWrongFalsely : Prop := fnExactParseExprRow.holds Try.pinned (OpenSpec.ofChange fnExactParseExprWrong)

/-- 'laws.FnExactLabelsValid': WHATEVER THE INPUT: true; the input reads as it did. -/
def fnExactLabelsValidSpec : ChangeSpec := { name := "fnExactLabelsValid", fn := fun _ => fun
  | [d] => { results := [.lit (.bool true)], args := [d] }
  | _ => none }
def fnExactLabelsValidRow : OpenClaim := { program := "ytagbindamcfnoaa", sum := "39e6754a5a5d0799b92b9745f0c6c668f5fbe61ed1966a7fdff87498d8299569", func := "loop.example/ltlcheck/laws.FnExactLabelsValid", spec := "fnExactLabelsValid", unfollowed := true, recurses := true, loops := true, apart := false }
def FnExactLabelsValidSaid : Prop := fnExactLabelsValidRow.holds Try.pinned (OpenSpec.ofChange fnExactLabelsValidSpec)

/-- ITS FALSE NEIGHBOUR: 'it returns false'. Refute it at one input. -/
def fnExactLabelsValidWrong : ChangeSpec := { name := "fnExactLabelsValid", fn := fun _ => fun
  | [d] => { results := [.lit (.bool false)], args := [d] }
  | _ => none }
def FnExactLabelsValidWrongFalsely : Prop := fnExactLabelsValidRow.holds Try.pinned (OpenSpec.ofChange fnExactLabelsValidWrong)

/-- 'laws.FnExactLabelState': WHATEVER THE INPUT: true; the input reads as it did. -/
def fnExactLabelStateSpec : ChangeSpec := { name := "fnExactLabelState", fn := fun _ => fun
  | [d1, d2] => { results := [.lit (.bool true)], args := [d1, d2] }
  | _ => none }
def fnExactLabelStateRow : OpenClaim := { program := "ytagbindamcfnoaa", sum := "39e6754a5a5d0799b92b9745f0c6c668f5fbe61ed1966a7fdff87498d8299569", func := "loop.example/ltlcheck/laws.FnExactLabelState", spec := "fnExactLabelState", unfollowed := true, recurses := true, loops := true, apart := false }
def FnExactLabelStateSaid : Prop := fnExactLabelStateRow.holds Try.pinned (OpenSpec.ofChange fnExactLabelStateSpec)

/-- ITS FALSE NEIGHBOUR: 'it returns false'. Refute it at one input. -/
def fnExactLabelStateWrong : ChangeSpec := { name := "fnExactLabelState", fn := fun _ => fun
  | [d1, d2] => { results := [.lit (.bool false)], args := [d1, d2] }
  | _ => none }
def FnExactLabelStateWrongFalsely : Prop := fnExactLabelStateRow.holds Try.pinned (OpenSpec.ofChange fnExactLabelStateWrong)

/- THE SECOND FORM. 'bulk': how many values and letters a reading holds, each counted each time it is reached (what is shared counts as often as it is met; a slice's spare places count too). A statement '..UptoSaid' is the law's where the arguments, and the package variables that the reading takes, are together of bulk at most 1048576: NARROWER than '..Said'. Prove '..Said' where nothing that the law and all that it calls make is longer than what came in: it says more and counts as full. Else prove '..UptoSaid'. A law counts once. -/
mutual
def uptoBulk {H : Type} : DataW H → Nat
  | .lit (.string bytes) => bytes.length + 1
  | .lit _ => 1
  | .nil => 1
  | .ptr d => uptoBulk d + 1
  | .slice elems spare => uptoBulkAll elems + uptoBulkAll spare + 1
  | .agg parts => uptoBulkAll parts + 1
  | .iface _ d => uptoBulk d + 1
  | .map entries => uptoBulkEntries entries + 1
  | .held _ => 1
def uptoBulkAll {H : Type} : List (DataW H) → Nat
  | [] => 0
  | d :: r => uptoBulk d + uptoBulkAll r
def uptoBulkEntries {H : Type} : List (Lit × DataW H) → Nat
  | [] => 0
  | x :: r => uptoBulkEntry x + uptoBulkEntries r
def uptoBulkEntry {H : Type} : Lit × DataW H → Nat
  | (.string bytes, d) => bytes.length + uptoBulk d + 1
  | (_, d) => uptoBulk d + 1
 end
def uptoSmall : (H : Type) → List (DataW H) → Bool := fun _ ds => decide (uptoBulkAll ds ≤ 1048576)
def OpenSpec.upto (s : _root_.Go.ChangeSpec) : _root_.Go.OpenSpec := { _root_.Go.OpenSpec.ofChange s with cond := some uptoSmall }

/-- 'laws.FnExactExprValid', WHERE WHAT IT READS IS OF BULK AT MOST 1048576: true; the input reads as it did. -/
def fnExactExprValidUptoRow : OpenClaim := { program := "ytagbindamcfnoaa", sum := "39e6754a5a5d0799b92b9745f0c6c668f5fbe61ed1966a7fdff87498d8299569", func := "loop.example/ltlcheck/laws.FnExactExprValid", spec := "fnExactExprValid", unfollowed := true, recurses := true, loops := true, apart := false, narrowed := true }
def FnExactExprValidUptoSaid : Prop := fnExactExprValidUptoRow.holds Try.pinned (OpenSpec.upto fnExactExprValidSpec)

/-- 'laws.FnExactExprNodes', WHERE WHAT IT READS IS OF BULK AT MOST 1048576: true; the input reads as it did. -/
def fnExactExprNodesUptoRow : OpenClaim := { program := "ytagbindamcfnoaa", sum := "39e6754a5a5d0799b92b9745f0c6c668f5fbe61ed1966a7fdff87498d8299569", func := "loop.example/ltlcheck/laws.FnExactExprNodes", spec := "fnExactExprNodes", unfollowed := true, recurses := true, loops := true, apart := false, narrowed := true }
def FnExactExprNodesUptoSaid : Prop := fnExactExprNodesUptoRow.holds Try.pinned (OpenSpec.upto fnExactExprNodesSpec)

/-- 'laws.FnExactExprVars', WHERE WHAT IT READS IS OF BULK AT MOST 1048576: true; the input reads as it did. -/
def fnExactExprVarsUptoRow : OpenClaim := { program := "ytagbindamcfnoaa", sum := "39e6754a5a5d0799b92b9745f0c6c668f5fbe61ed1966a7fdff87498d8299569", func := "loop.example/ltlcheck/laws.FnExactExprVars", spec := "fnExactExprVars", unfollowed := true, recurses := true, loops := true, apart := false, narrowed := true }
def FnExactExprVarsUptoSaid : Prop := fnExactExprVarsUptoRow.holds Try.pinned (OpenSpec.upto fnExactExprVarsSpec)

/-- 'laws.FnExactSubstExpr', WHERE WHAT IT READS IS OF BULK AT MOST 1048576: true; the input reads as it did. -/
def fnExactSubstExprUptoRow : OpenClaim := { program := "ytagbindamcfnoaa", sum := "39e6754a5a5d0799b92b9745f0c6c668f5fbe61ed1966a7fdff87498d8299569", func := "loop.example/ltlcheck/laws.FnExactSubstExpr", spec := "fnExactSubstExpr", unfollowed := true, recurses := true, loops := true, apart := false, narrowed := true }
def FnExactSubstExprUptoSaid : Prop := fnExactSubstExprUptoRow.holds Try.pinned (OpenSpec.upto fnExactSubstExprSpec)

/-- 'laws.FnExactEvalExpr', WHERE WHAT IT READS IS OF BULK AT MOST 1048576: true; the input reads as it did. -/
def fnExactEvalExprUptoRow : OpenClaim := { program := "ytagbindamcfnoaa", sum := "39e6754a5a5d0799b92b9745f0c6c668f5fbe61ed1966a7fdff87498d8299569", func := "loop.example/ltlcheck/laws.FnExactEvalExpr", spec := "fnExactEvalExpr", unfollowed := true, recurses := true, loops := true, apart := false, narrowed := true }
def FnExactEvalExprUptoSaid : Prop := fnExactEvalExprUptoRow.holds Try.pinned (OpenSpec.upto fnExactEvalExprSpec)

/-- 'laws.FnExactParseExpr', WHERE WHAT IT READS IS OF BULK AT MOST 1048576: true; the input reads as it did. -/
def fnExactParseExprUptoRow : OpenClaim := { program := "ytagbindamcfnoaa", sum := "39e6754a5a5d0799b92b9745f0c6c668f5fbe61ed1966a7fdff87498d8299569", func := "loop.example/ltlcheck/laws.FnExactParseExpr", spec := "fnExactParseExpr", inPlace := ["internal/bytealg.IndexByteString"], unfollowed := true, recurses := true, apart := false, narrowed := true }
def FnExactParseExprUptoSaid : Prop := fnExactParseExprUptoRow.holds Try.pinned (OpenSpec.upto fnExactParseExprSpec)

/-- 'laws.FnExactLabelsValid', WHERE WHAT IT READS IS OF BULK AT MOST 1048576: true; the input reads as it did. -/
def fnExactLabelsValidUptoRow : OpenClaim := { program := "ytagbindamcfnoaa", sum := "39e6754a5a5d0799b92b9745f0c6c668f5fbe61ed1966a7fdff87498d8299569", func := "loop.example/ltlcheck/laws.FnExactLabelsValid", spec := "fnExactLabelsValid", unfollowed := true, recurses := true, loops := true, apart := false, narrowed := true }
def FnExactLabelsValidUptoSaid : Prop := fnExactLabelsValidUptoRow.holds Try.pinned (OpenSpec.upto fnExactLabelsValidSpec)

/-- 'laws.FnExactLabelState', WHERE WHAT IT READS IS OF BULK AT MOST 1048576: true; the input reads as it did. -/
def fnExactLabelStateUptoRow : OpenClaim := { program := "ytagbindamcfnoaa", sum := "39e6754a5a5d0799b92b9745f0c6c668f5fbe61ed1966a7fdff87498d8299569", func := "loop.example/ltlcheck/laws.FnExactLabelState", spec := "fnExactLabelState", unfollowed := true, recurses := true, loops := true, apart := false, narrowed := true }
def FnExactLabelStateUptoSaid : Prop := fnExactLabelStateUptoRow.holds Try.pinned (OpenSpec.upto fnExactLabelStateSpec)

end Rows
end Go.Proofs.Ytagbindamcfnoaa
