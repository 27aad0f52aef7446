/-
  No cell of these rows narrows 'for every input' (looked for: loops, veiled, ifaces, maps, wideKeys, modest, calm, conditions, laid).
  DERIVED. THE GIVEN ROWS OF THIS SEAT. 7 by the template 'for every input the law returns true; each argument reads behind the call as it read before'; 0 by the template 'total and deterministic' (their statements: YthjhokifonjeaaaTotals.lean).
  GIVEN WITH THE SEED: the statements are not yours to turn. If you find one false, say at which input.
  Laid BY PROGRAM, IN A SANDBOX (cutbox-rows.mjs): the forced cells as the released guide's own fill.sh prints them over the translation 1467513bfa64f879… (all of the seat's roots in one cut). By AI agents, Wed Nov 11 2026. No macro, syntax, notation, axiom, sorry.
-/
import Derived.Test.YthjhokifonjeaaaChecked
import GoSem.Claim
import GoSem.ClaimJoined
import GoSem.ClaimMapViews
import Derived.JoinedTies
import Derived.KernelRfl
namespace Go.Proofs.Ythjhokifonjeaaa
/- THE CELL 'sum', in the pinned program and in every row, IS THE sha256 OF THE DUMP (.gsa) THAT YthjhokifonjeaaaProg.lean LOADS. Nothing in Lean hashes anything: it is a label: what it is worth is what the hold of that sum in a sandbox is worth. -/
noncomputable def Try.pinned : Pinned := { name := "ythjhokifonjeaaa", sum := "1467513bfa64f879a1ed1c65780eb9640a171ac4bfcfed581d896d62498721c1", checked := Try.checked }
namespace Rows
def none {H : Type} : Left H := { results := [], args := [] }

/-- 'laws.FnFormulaNodes': WHATEVER THE INPUT: true; the input reads as it did. -/
def fnFormulaNodesSpec : ChangeSpec := { name := "fnFormulaNodes", fn := fun _ => fun
  | [d] => { results := [.lit (.bool true)], args := [d] }
  | _ => none }
def fnFormulaNodesRow : OpenClaim := { program := "ythjhokifonjeaaa", sum := "1467513bfa64f879a1ed1c65780eb9640a171ac4bfcfed581d896d62498721c1", func := "loop.example/ltlcheck/laws.FnFormulaNodes", spec := "fnFormulaNodes", unfollowed := true, recurses := true, apart := false }
def FnFormulaNodesSaid : Prop := fnFormulaNodesRow.holds Try.pinned (OpenSpec.ofChange fnFormulaNodesSpec)

/-- ITS FALSE NEIGHBOUR: 'it returns false'. Refute it at one input. -/
def fnFormulaNodesWrong : ChangeSpec := { name := "fnFormulaNodes", fn := fun _ => fun
  | [d] => { results := [.lit (.bool false)], args := [d] }
  | _ => none }
def FnFormulaNodesWrongFalsely : Prop := fnFormulaNodesRow.holds Try.pinned (OpenSpec.ofChange fnFormulaNodesWrong)

/-- 'laws.FnSubformulas': WHATEVER THE INPUT: true; the input reads as it did. -/
def fnSubformulasSpec : ChangeSpec := { name := "fnSubformulas", fn := fun _ => fun
  | [d] => { results := [.lit (.bool true)], args := [d] }
  | _ => none }
def fnSubformulasRow : OpenClaim := { program := "ythjhokifonjeaaa", sum := "1467513bfa64f879a1ed1c65780eb9640a171ac4bfcfed581d896d62498721c1", func := "loop.example/ltlcheck/laws.FnSubformulas", spec := "fnSubformulas", unfollowed := true, recurses := true, apart := false }
def FnSubformulasSaid : Prop := fnSubformulasRow.holds Try.pinned (OpenSpec.ofChange fnSubformulasSpec)

/-- ITS FALSE NEIGHBOUR: 'it returns false'. Refute it at one input. -/
def fnSubformulasWrong : ChangeSpec := { name := "fnSubformulas", fn := fun _ => fun
  | [d] => { results := [.lit (.bool false)], args := [d] }
  | _ => none }
def FnSubformulasWrongFalsely : Prop := fnSubformulasRow.holds Try.pinned (OpenSpec.ofChange fnSubformulasWrong)

/-- 'laws.FnNormalForm': WHATEVER THE INPUT: true; the input reads as it did. -/
def fnNormalFormSpec : ChangeSpec := { name := "fnNormalForm", fn := fun _ => fun
  | [d] => { results := [.lit (.bool true)], args := [d] }
  | _ => none }
def fnNormalFormRow : OpenClaim := { program := "ythjhokifonjeaaa", sum := "1467513bfa64f879a1ed1c65780eb9640a171ac4bfcfed581d896d62498721c1", func := "loop.example/ltlcheck/laws.FnNormalForm", spec := "fnNormalForm", unfollowed := true, recurses := true, apart := false }
def FnNormalFormSaid : Prop := fnNormalFormRow.holds Try.pinned (OpenSpec.ofChange fnNormalFormSpec)

/-- ITS FALSE NEIGHBOUR: 'it returns false'. Refute it at one input. -/
def fnNormalFormWrong : ChangeSpec := { name := "fnNormalForm", fn := fun _ => fun
  | [d] => { results := [.lit (.bool false)], args := [d] }
  | _ => none }
def FnNormalFormWrongFalsely : Prop := fnNormalFormRow.holds Try.pinned (OpenSpec.ofChange fnNormalFormWrong)

/-- 'laws.FnNegateFormula': WHATEVER THE INPUT: true; the input reads as it did. -/
def fnNegateFormulaSpec : ChangeSpec := { name := "fnNegateFormula", fn := fun _ => fun
  | [d] => { results := [.lit (.bool true)], args := [d] }
  | _ => none }
def fnNegateFormulaRow : OpenClaim := { program := "ythjhokifonjeaaa", sum := "1467513bfa64f879a1ed1c65780eb9640a171ac4bfcfed581d896d62498721c1", func := "loop.example/ltlcheck/laws.FnNegateFormula", spec := "fnNegateFormula", unfollowed := true, recurses := true, apart := false }
def FnNegateFormulaSaid : Prop := fnNegateFormulaRow.holds Try.pinned (OpenSpec.ofChange fnNegateFormulaSpec)

/-- ITS FALSE NEIGHBOUR: 'it returns false'. Refute it at one input. -/
def fnNegateFormulaWrong : ChangeSpec := { name := "fnNegateFormula", fn := fun _ => fun
  | [d] => { results := [.lit (.bool false)], args := [d] }
  | _ => none }
def FnNegateFormulaWrongFalsely : Prop := fnNegateFormulaRow.holds Try.pinned (OpenSpec.ofChange fnNegateFormulaWrong)

/-- 'laws.FnBasicFormulas': WHATEVER THE INPUT: true; the input reads as it did. -/
def fnBasicFormulasSpec : ChangeSpec := { name := "fnBasicFormulas", fn := fun _ => fun
  | [d] => { results := [.lit (.bool true)], args := [d] }
  | _ => none }
def fnBasicFormulasRow : OpenClaim := { program := "ythjhokifonjeaaa", sum := "1467513bfa64f879a1ed1c65780eb9640a171ac4bfcfed581d896d62498721c1", func := "loop.example/ltlcheck/laws.FnBasicFormulas", spec := "fnBasicFormulas", unfollowed := true, recurses := true, apart := false }
def FnBasicFormulasSaid : Prop := fnBasicFormulasRow.holds Try.pinned (OpenSpec.ofChange fnBasicFormulasSpec)

/-- ITS FALSE NEIGHBOUR: 'it returns false'. Refute it at one input. -/
def fnBasicFormulasWrong : ChangeSpec := { name := "fnBasicFormulas", fn := fun _ => fun
  | [d] => { results := [.lit (.bool false)], args := [d] }
  | _ => none }
def FnBasicFormulasWrongFalsely : Prop := fnBasicFormulasRow.holds Try.pinned (OpenSpec.ofChange fnBasicFormulasWrong)

/-- 'laws.FnBranchingSame': WHATEVER THE INPUT: true; the input reads as it did. -/
def fnBranchingSameSpec : ChangeSpec := { name := "fnBranchingSame", fn := fun _ => fun
  | [d] => { results := [.lit (.bool true)], args := [d] }
  | _ => none }
def fnBranchingSameRow : OpenClaim := { program := "ythjhokifonjeaaa", sum := "1467513bfa64f879a1ed1c65780eb9640a171ac4bfcfed581d896d62498721c1", func := "loop.example/ltlcheck/laws.FnBranchingSame", spec := "fnBranchingSame", unfollowed := true, recurses := true, apart := false }
def FnBranchingSameSaid : Prop := fnBranchingSameRow.holds Try.pinned (OpenSpec.ofChange fnBranchingSameSpec)

/-- ITS FALSE NEIGHBOUR: 'it returns false'. Refute it at one input. -/
def fnBranchingSameWrong : ChangeSpec := { name := "fnBranchingSame", fn := fun _ => fun
  | [d] => { results := [.lit (.bool false)], args := [d] }
  | _ => none }
def FnBranchingSameWrongFalsely : Prop := fnBranchingSameRow.holds Try.pinned (OpenSpec.ofChange fnBranchingSameWrong)

/-- 'laws.FnBranchingText': WHATEVER THE INPUT: true; the input reads as it did. -/
def fnBranchingTextSpec : ChangeSpec := { name := "fnBranchingText", fn := fun _ => fun
  | [d1, d2] => { results := [.lit (.bool true)], args := [d1, d2] }
  | _ => none }
def fnBranchingTextRow : OpenClaim := { program := "ythjhokifonjeaaa", sum := "1467513bfa64f879a1ed1c65780eb9640a171ac4bfcfed581d896d62498721c1", func := "loop.example/ltlcheck/laws.FnBranchingText", spec := "fnBranchingText", inPlace := ["internal/bytealg.IndexByteString"], unfollowed := true, recurses := true, apart := false }
def FnBranchingTextSaid : Prop := fnBranchingTextRow.holds Try.pinned (OpenSpec.ofChange fnBranchingTextSpec)

/-- ITS FALSE NEIGHBOUR: 'it returns false'. Refute it at one input. -/
def fnBranchingTextWrong : ChangeSpec := { name := "fnBranchingText", fn := fun _ => fun
  | [d1, d2] => { results := [.lit (.bool false)], args := [d1, d2] }
  | _ => none }
def FnBranchingTextWrongFalsely : Prop := fnBranchingTextRow.holds Try.pinned (OpenSpec.ofChange fnBranchingTextWrong)

/- THE SECOND FORM. 'bulk': how many values and letters a reading holds, each counted each time it is reached (what is shared counts as often as it is met; a slice's spare places count too). A statement '..UptoSaid' is the law's where the arguments, and the package variables that the reading takes, are together of bulk at most 1048576: NARROWER than '..Said'. Prove '..Said' where nothing that the law and all that it calls make is longer than what came in: it says more and counts as full. Else prove '..UptoSaid'. A law counts once. -/
mutual
def uptoBulk {H : Type} : DataW H → Nat
  | .lit (.string bytes) => bytes.length + 1
  | .lit _ => 1
  | .nil => 1
  | .ptr d => uptoBulk d + 1
  | .slice elems spare => uptoBulkAll elems + uptoBulkAll spare + 1
  | .agg parts => uptoBulkAll parts + 1
  | .iface _ d => uptoBulk d + 1
  | .map entries => uptoBulkEntries entries + 1
  | .held _ => 1
def uptoBulkAll {H : Type} : List (DataW H) → Nat
  | [] => 0
  | d :: r => uptoBulk d + uptoBulkAll r
def uptoBulkEntries {H : Type} : List (Lit × DataW H) → Nat
  | [] => 0
  | x :: r => uptoBulkEntry x + uptoBulkEntries r
def uptoBulkEntry {H : Type} : Lit × DataW H → Nat
  | (.string bytes, d) => bytes.length + uptoBulk d + 1
  | (_, d) => uptoBulk d + 1
 end
def uptoSmall : (H : Type) → List (DataW H) → Bool := fun _ ds => decide (uptoBulkAll ds ≤ 1048576)
def OpenSpec.upto (s : _root_.Go.ChangeSpec) : _root_.Go.OpenSpec := { _root_.Go.OpenSpec.ofChange s with cond := some uptoSmall }

/-- 'laws.FnFormulaNodes', WHERE WHAT IT READS IS OF BULK AT MOST 1048576: true; the input reads as it did. -/
def fnFormulaNodesUptoRow : OpenClaim := { program := "ythjhokifonjeaaa", sum := "1467513bfa64f879a1ed1c65780eb9640a171ac4bfcfed581d896d62498721c1", func := "loop.example/ltlcheck/laws.FnFormulaNodes", spec := "fnFormulaNodes", unfollowed := true, recurses := true, apart := false, narrowed := true }
def FnFormulaNodesUptoSaid : Prop := fnFormulaNodesUptoRow.holds Try.pinned (OpenSpec.upto fnFormulaNodesSpec)

/-- 'laws.FnSubformulas', WHERE WHAT IT READS IS OF BULK AT MOST 1048576: true; the input reads as it did. -/
def fnSubformulasUptoRow : OpenClaim := { program := "ythjhokifonjeaaa", sum := "1467513bfa64f879a1ed1c65780eb9640a171ac4bfcfed581d896d62498721c1", func := "loop.example/ltlcheck/laws.FnSubformulas", spec := "fnSubformulas", unfollowed := true, recurses := true, apart := false, narrowed := true }
def FnSubformulasUptoSaid : Prop := fnSubformulasUptoRow.holds Try.pinned (OpenSpec.upto fnSubformulasSpec)

/-- 'laws.FnNormalForm', WHERE WHAT IT READS IS OF BULK AT MOST 1048576: true; the input reads as it did. -/
def fnNormalFormUptoRow : OpenClaim := { program := "ythjhokifonjeaaa", sum := "1467513bfa64f879a1ed1c65780eb9640a171ac4bfcfed581d896d62498721c1", func := "loop.example/ltlcheck/laws.FnNormalForm", spec := "fnNormalForm", unfollowed := true, recurses := true, apart := false, narrowed := true }
def FnNormalFormUptoSaid : Prop := fnNormalFormUptoRow.holds Try.pinned (OpenSpec.upto fnNormalFormSpec)

/-- 'laws.FnNegateFormula', WHERE WHAT IT READS IS OF BULK AT MOST 1048576: true; the input reads as it did. -/
def fnNegateFormulaUptoRow : OpenClaim := { program := "ythjhokifonjeaaa", sum := "1467513bfa64f879a1ed1c65780eb9640a171ac4bfcfed581d896d62498721c1", func := "loop.example/ltlcheck/laws.FnNegateFormula", spec := "fnNegateFormula", unfollowed := true, recurses := true, apart := false, narrowed := true }
def FnNegateFormulaUptoSaid : Prop := fnNegateFormulaUptoRow.holds Try.pinned (OpenSpec.upto fnNegateFormulaSpec)

/-- 'laws.FnBasicFormulas', WHERE WHAT IT READS IS OF BULK AT MOST 1048576: true; the input reads as it did. -/
def fnBasicFormulasUptoRow : OpenClaim := { program := "ythjhokifonjeaaa", sum := "1467513bfa64f879a1ed1c65780eb9640a171ac4bfcfed581d896d62498721c1", func := "loop.example/ltlcheck/laws.FnBasicFormulas", spec := "fnBasicFormulas", unfollowed := true, recurses := true, apart := false, narrowed := true }
def FnBasicFormulasUptoSaid : Prop := fnBasicFormulasUptoRow.holds Try.pinned (OpenSpec.upto fnBasicFormulasSpec)

/-- 'laws.FnBranchingSame', WHERE WHAT IT READS IS OF BULK AT MOST 1048576: true; the input reads as it did. -/
def fnBranchingSameUptoRow : OpenClaim := { program := "ythjhokifonjeaaa", sum := "1467513bfa64f879a1ed1c65780eb9640a171ac4bfcfed581d896d62498721c1", func := "loop.example/ltlcheck/laws.FnBranchingSame", spec := "fnBranchingSame", unfollowed := true, recurses := true, apart := false, narrowed := true }
def FnBranchingSameUptoSaid : Prop := fnBranchingSameUptoRow.holds Try.pinned (OpenSpec.upto fnBranchingSameSpec)

/-- 'laws.FnBranchingText', WHERE WHAT IT READS IS OF BULK AT MOST 1048576: true; the input reads as it did. -/
def fnBranchingTextUptoRow : OpenClaim := { program := "ythjhokifonjeaaa", sum := "1467513bfa64f879a1ed1c65780eb9640a171ac4bfcfed581d896d62498721c1", func := "loop.example/ltlcheck/laws.FnBranchingText", spec := "fnBranchingText", inPlace := ["internal/bytealg.IndexByteString"], unfollowed := true, recurses := true, apart := false, narrowed := true }
def FnBranchingTextUptoSaid : Prop := fnBranchingTextUptoRow.holds Try.pinned (OpenSpec.upto fnBranchingTextSpec)

end Rows
end Go.Proofs.Ythjhokifonjeaaa
