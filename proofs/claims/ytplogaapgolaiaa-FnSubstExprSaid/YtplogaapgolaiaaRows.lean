/-
  No cell of these rows narrows 'for every input' (looked for: loops, veiled, ifaces, maps, wideKeys, modest, calm, conditions, laid).
  DERIVED. THE GIVEN ROWS OF THIS SEAT. 6 by the template 'for every input the law returns true; each argument reads behind the call as it read before'; 0 by the template 'total and deterministic' (their statements: YtplogaapgolaiaaTotals.lean).
  GIVEN WITH THE SEED: the statements are not yours to turn. If you find one false, say at which input.
  Laid BY PROGRAM, IN A SANDBOX (cutbox-rows.mjs): the forced cells as the released guide's own fill.sh prints them over the translation 66f1ee9ce6a9c745… (all of the seat's roots in one cut). By AI agents, Wed Nov 11 2026. No macro, syntax, notation, axiom, sorry.
-/
import Derived.Test.YtplogaapgolaiaaChecked
import GoSem.Claim
import GoSem.ClaimJoined
import GoSem.ClaimMapViews
import Derived.JoinedTies
import Derived.KernelRfl
namespace Go.Proofs.Ytplogaapgolaiaa
/- THE CELL 'sum', in the pinned program and in every row, IS THE sha256 OF THE DUMP (.gsa) THAT YtplogaapgolaiaaProg.lean LOADS. Nothing in Lean hashes anything: it is a label: what it is worth is what the hold of that sum in a sandbox is worth. -/
noncomputable def Try.pinned : Pinned := { name := "ytplogaapgolaiaa", sum := "66f1ee9ce6a9c745228734f5b25eae52209601db926251bf7fc1913471f3dabf", checked := Try.checked }
namespace Rows
def none {H : Type} : Left H := { results := [], args := [] }

/-- 'laws.FnExprNodes': WHATEVER THE INPUT: true; the input reads as it did. -/
def fnExprNodesSpec : ChangeSpec := { name := "fnExprNodes", fn := fun _ => fun
  | [d] => { results := [.lit (.bool true)], args := [d] }
  | _ => none }
def fnExprNodesRow : OpenClaim := { program := "ytplogaapgolaiaa", sum := "66f1ee9ce6a9c745228734f5b25eae52209601db926251bf7fc1913471f3dabf", func := "loop.example/ltlcheck/laws.FnExprNodes", spec := "fnExprNodes", unfollowed := true, recurses := true, apart := false }
def FnExprNodesSaid : Prop := fnExprNodesRow.holds Try.pinned (OpenSpec.ofChange fnExprNodesSpec)

/-- ITS FALSE NEIGHBOUR: 'it returns false'. Refute it at one input. -/
def fnExprNodesWrong : ChangeSpec := { name := "fnExprNodes", fn := fun _ => fun
  | [d] => { results := [.lit (.bool false)], args := [d] }
  | _ => none }
def FnExprNodesWrongFalsely : Prop := fnExprNodesRow.holds Try.pinned (OpenSpec.ofChange fnExprNodesWrong)

/-- 'laws.FnExprDuality': WHATEVER THE INPUT: true; the input reads as it did. -/
def fnExprDualitySpec : ChangeSpec := { name := "fnExprDuality", fn := fun _ => fun
  | [d1, d2] => { results := [.lit (.bool true)], args := [d1, d2] }
  | _ => none }
def fnExprDualityRow : OpenClaim := { program := "ytplogaapgolaiaa", sum := "66f1ee9ce6a9c745228734f5b25eae52209601db926251bf7fc1913471f3dabf", func := "loop.example/ltlcheck/laws.FnExprDuality", spec := "fnExprDuality", unfollowed := true, recurses := true, apart := false }
def FnExprDualitySaid : Prop := fnExprDualityRow.holds Try.pinned (OpenSpec.ofChange fnExprDualitySpec)

/-- ITS FALSE NEIGHBOUR: 'it returns false'. Refute it at one input. -/
def fnExprDualityWrong : ChangeSpec := { name := "fnExprDuality", fn := fun _ => fun
  | [d1, d2] => { results := [.lit (.bool false)], args := [d1, d2] }
  | _ => none }
def FnExprDualityWrongFalsely : Prop := fnExprDualityRow.holds Try.pinned (OpenSpec.ofChange fnExprDualityWrong)

/-- 'laws.FnExprInverse': WHATEVER THE INPUT: true; the input reads as it did. -/
def fnExprInverseSpec : ChangeSpec := { name := "fnExprInverse", fn := fun _ => fun
  | [d1, d2] => { results := [.lit (.bool true)], args := [d1, d2] }
  | _ => none }
def fnExprInverseRow : OpenClaim := { program := "ytplogaapgolaiaa", sum := "66f1ee9ce6a9c745228734f5b25eae52209601db926251bf7fc1913471f3dabf", func := "loop.example/ltlcheck/laws.FnExprInverse", spec := "fnExprInverse", unfollowed := true, recurses := true, apart := false }
def FnExprInverseSaid : Prop := fnExprInverseRow.holds Try.pinned (OpenSpec.ofChange fnExprInverseSpec)

/-- ITS FALSE NEIGHBOUR: 'it returns false'. Refute it at one input. -/
def fnExprInverseWrong : ChangeSpec := { name := "fnExprInverse", fn := fun _ => fun
  | [d1, d2] => { results := [.lit (.bool false)], args := [d1, d2] }
  | _ => none }
def FnExprInverseWrongFalsely : Prop := fnExprInverseRow.holds Try.pinned (OpenSpec.ofChange fnExprInverseWrong)

/-- 'laws.FnEvalExpr': WHATEVER THE INPUT: true; the input reads as it did. -/
def fnEvalExprSpec : ChangeSpec := { name := "fnEvalExpr", fn := fun _ => fun
  | [d] => { results := [.lit (.bool true)], args := [d] }
  | _ => none }
def fnEvalExprRow : OpenClaim := { program := "ytplogaapgolaiaa", sum := "66f1ee9ce6a9c745228734f5b25eae52209601db926251bf7fc1913471f3dabf", func := "loop.example/ltlcheck/laws.FnEvalExpr", spec := "fnEvalExpr", unfollowed := true, recurses := true, apart := false }
def FnEvalExprSaid : Prop := fnEvalExprRow.holds Try.pinned (OpenSpec.ofChange fnEvalExprSpec)

/-- ITS FALSE NEIGHBOUR: 'it returns false'. Refute it at one input. -/
def fnEvalExprWrong : ChangeSpec := { name := "fnEvalExpr", fn := fun _ => fun
  | [d] => { results := [.lit (.bool false)], args := [d] }
  | _ => none }
def FnEvalExprWrongFalsely : Prop := fnEvalExprRow.holds Try.pinned (OpenSpec.ofChange fnEvalExprWrong)

/-- 'laws.FnSubstExpr': WHATEVER THE INPUT: true; the input reads as it did. -/
def fnSubstExprSpec : ChangeSpec := { name := "fnSubstExpr", fn := fun _ => fun
  | [d1, d2] => { results := [.lit (.bool true)], args := [d1, d2] }
  | _ => none }
def fnSubstExprRow : OpenClaim := { program := "ytplogaapgolaiaa", sum := "66f1ee9ce6a9c745228734f5b25eae52209601db926251bf7fc1913471f3dabf", func := "loop.example/ltlcheck/laws.FnSubstExpr", spec := "fnSubstExpr", unfollowed := true, recurses := true, apart := false }
def FnSubstExprSaid : Prop := fnSubstExprRow.holds Try.pinned (OpenSpec.ofChange fnSubstExprSpec)

/-- ITS FALSE NEIGHBOUR: 'it returns false'. Refute it at one input. -/
def fnSubstExprWrong : ChangeSpec := { name := "fnSubstExpr", fn := fun _ => fun
  | [d1, d2] => { results := [.lit (.bool false)], args := [d1, d2] }
  | _ => none }
def FnSubstExprWrongFalsely : Prop := fnSubstExprRow.holds Try.pinned (OpenSpec.ofChange fnSubstExprWrong)

/-- 'laws.FnLabelState': WHATEVER THE INPUT: true; the input reads as it did. -/
def fnLabelStateSpec : ChangeSpec := { name := "fnLabelState", fn := fun _ => fun
  | [d] => { results := [.lit (.bool true)], args := [d] }
  | _ => none }
def fnLabelStateRow : OpenClaim := { program := "ytplogaapgolaiaa", sum := "66f1ee9ce6a9c745228734f5b25eae52209601db926251bf7fc1913471f3dabf", func := "loop.example/ltlcheck/laws.FnLabelState", spec := "fnLabelState", unfollowed := true, recurses := true, apart := false }
def FnLabelStateSaid : Prop := fnLabelStateRow.holds Try.pinned (OpenSpec.ofChange fnLabelStateSpec)

/-- ITS FALSE NEIGHBOUR: 'it returns false'. Refute it at one input. -/
def fnLabelStateWrong : ChangeSpec := { name := "fnLabelState", fn := fun _ => fun
  | [d] => { results := [.lit (.bool false)], args := [d] }
  | _ => none }
def FnLabelStateWrongFalsely : Prop := fnLabelStateRow.holds Try.pinned (OpenSpec.ofChange fnLabelStateWrong)

/- THE SECOND FORM. 'bulk': how many values and letters a reading holds, each counted each time it is reached (what is shared counts as often as it is met; a slice's spare places count too). A statement '..UptoSaid' is the law's where the arguments, and the package variables that the reading takes, are together of bulk at most 1048576: NARROWER than '..Said'. Prove '..Said' where nothing that the law and all that it calls make is longer than what came in: it says more and counts as full. Else prove '..UptoSaid'. A law counts once. -/
mutual
def uptoBulk {H : Type} : DataW H → Nat
  | .lit (.string bytes) => bytes.length + 1
  | .lit _ => 1
  | .nil => 1
  | .ptr d => uptoBulk d + 1
  | .slice elems spare => uptoBulkAll elems + uptoBulkAll spare + 1
  | .agg parts => uptoBulkAll parts + 1
  | .iface _ d => uptoBulk d + 1
  | .map entries => uptoBulkEntries entries + 1
  | .held _ => 1
def uptoBulkAll {H : Type} : List (DataW H) → Nat
  | [] => 0
  | d :: r => uptoBulk d + uptoBulkAll r
def uptoBulkEntries {H : Type} : List (Lit × DataW H) → Nat
  | [] => 0
  | x :: r => uptoBulkEntry x + uptoBulkEntries r
def uptoBulkEntry {H : Type} : Lit × DataW H → Nat
  | (.string bytes, d) => bytes.length + uptoBulk d + 1
  | (_, d) => uptoBulk d + 1
 end
def uptoSmall : (H : Type) → List (DataW H) → Bool := fun _ ds => decide (uptoBulkAll ds ≤ 1048576)
def OpenSpec.upto (s : _root_.Go.ChangeSpec) : _root_.Go.OpenSpec := { _root_.Go.OpenSpec.ofChange s with cond := some uptoSmall }

/-- 'laws.FnExprNodes', WHERE WHAT IT READS IS OF BULK AT MOST 1048576: true; the input reads as it did. -/
def fnExprNodesUptoRow : OpenClaim := { program := "ytplogaapgolaiaa", sum := "66f1ee9ce6a9c745228734f5b25eae52209601db926251bf7fc1913471f3dabf", func := "loop.example/ltlcheck/laws.FnExprNodes", spec := "fnExprNodes", unfollowed := true, recurses := true, apart := false, narrowed := true }
def FnExprNodesUptoSaid : Prop := fnExprNodesUptoRow.holds Try.pinned (OpenSpec.upto fnExprNodesSpec)

/-- 'laws.FnExprDuality', WHERE WHAT IT READS IS OF BULK AT MOST 1048576: true; the input reads as it did. -/
def fnExprDualityUptoRow : OpenClaim := { program := "ytplogaapgolaiaa", sum := "66f1ee9ce6a9c745228734f5b25eae52209601db926251bf7fc1913471f3dabf", func := "loop.example/ltlcheck/laws.FnExprDuality", spec := "fnExprDuality", unfollowed := true, recurses := true, apart := false, narrowed := true }
def FnExprDualityUptoSaid : Prop := fnExprDualityUptoRow.holds Try.pinned (OpenSpec.upto fnExprDualitySpec)

/-- 'laws.FnExprInverse', WHERE WHAT IT READS IS OF BULK AT MOST 1048576: true; the input reads as it did. -/
def fnExprInverseUptoRow : OpenClaim := { program := "ytplogaapgolaiaa", sum := "66f1ee9ce6a9c745228734f5b25eae52209601db926251bf7fc1913471f3dabf", func := "loop.example/ltlcheck/laws.FnExprInverse", spec := "fnExprInverse", unfollowed := true, recurses := true, apart := false, narrowed := true }
def FnExprInverseUptoSaid : Prop := fnExprInverseUptoRow.holds Try.pinned (OpenSpec.upto fnExprInverseSpec)

/-- 'laws.FnEvalExpr', WHERE WHAT IT READS IS OF BULK AT MOST 1048576: true; the input reads as it did. -/
def fnEvalExprUptoRow : OpenClaim := { program := "ytplogaapgolaiaa", sum := "66f1ee9ce6a9c745228734f5b25eae52209601db926251bf7fc1913471f3dabf", func := "loop.example/ltlcheck/laws.FnEvalExpr", spec := "fnEvalExpr", unfollowed := true, recurses := true, apart := false, narrowed := true }
def FnEvalExprUptoSaid : Prop := fnEvalExprUptoRow.holds Try.pinned (OpenSpec.upto fnEvalExprSpec)

/-- 'laws.FnSubstExpr', WHERE WHAT IT READS IS OF BULK AT MOST 1048576: true; the input reads as it did. -/
def fnSubstExprUptoRow : OpenClaim := { program := "ytplogaapgolaiaa", sum := "66f1ee9ce6a9c745228734f5b25eae52209601db926251bf7fc1913471f3dabf", func := "loop.example/ltlcheck/laws.FnSubstExpr", spec := "fnSubstExpr", unfollowed := true, recurses := true, apart := false, narrowed := true }
def FnSubstExprUptoSaid : Prop := fnSubstExprUptoRow.holds Try.pinned (OpenSpec.upto fnSubstExprSpec)

/-- 'laws.FnLabelState', WHERE WHAT IT READS IS OF BULK AT MOST 1048576: true; the input reads as it did. -/
def fnLabelStateUptoRow : OpenClaim := { program := "ytplogaapgolaiaa", sum := "66f1ee9ce6a9c745228734f5b25eae52209601db926251bf7fc1913471f3dabf", func := "loop.example/ltlcheck/laws.FnLabelState", spec := "fnLabelState", unfollowed := true, recurses := true, apart := false, narrowed := true }
def FnLabelStateUptoSaid : Prop := fnLabelStateUptoRow.holds Try.pinned (OpenSpec.upto fnLabelStateSpec)

end Rows
end Go.Proofs.Ytplogaapgolaiaa
