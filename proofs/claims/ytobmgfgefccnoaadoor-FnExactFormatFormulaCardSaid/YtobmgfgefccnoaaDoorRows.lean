/-
  NARROWER THAN 'FOR EVERY INPUT', by the rows' own cells (each row's printed sentence says how): FnExactFormatFormula: loops, laid.
  DERIVED. THE GIVEN ROWS OF THIS SEAT. 1 by the template 'for every input the law returns true; each argument reads behind the call as it read before'; 0 by the template 'total and deterministic' (their statements: YtobmgfgefccnoaaDoorTotals.lean).
  GIVEN WITH THE SEED: the statements are not yours to turn. If you find one false, say at which input.
  Laid BY PROGRAM, IN A SANDBOX (cutbox-rows.mjs): the forced cells as the released guide's own fill.sh prints them over the translation 34ed1c31d9fdb6da… (all of the seat's roots in one cut). By AI agents, Wed Nov 11 2026. No macro, syntax, notation, axiom, sorry.
-/
import Derived.Test.YtobmgfgefccnoaaDoorChecked
import GoSem.Claim
import GoSem.ClaimJoined
import GoSem.ClaimMapViews
import Derived.JoinedTies
import Derived.KernelRfl
namespace Go.Proofs.YtobmgfgefccnoaaDoor
/- THE CELL 'sum', in the pinned program and in every row, IS THE sha256 OF THE DUMP (.gsa) THAT YtobmgfgefccnoaaDoorProg.lean LOADS. Nothing in Lean hashes anything: it is a label: what it is worth is what the hold of that sum in a sandbox is worth. -/
noncomputable def Tryd.pinned : Pinned := { name := "ytobmgfgefccnoaadoor", sum := "34ed1c31d9fdb6da0030f20cfdf0e98253e70ed1f79da4b1a0e4bdefb6e65684", checked := Tryd.checked }
namespace Rows
def none {H : Type} : Left H := { results := [], args := [] }

/- WHAT THE LISTED PACKAGE-LEVEL VARIABLES READ AS WHEN THE CALL BEGINS. Each datum BY PROGRAM (the guide's laid-datum.mjs) off the statement by which the dump's own 'gosem.cut.vars' lays the variable. In a bare row this is a premise. The card (YtobmgfgefccnoaaDoorCards.lean) ties it to the program's text. -/
def laid_loop_example_ltlcheck_impl_formulaSigns {H : Type} : DataW H := .slice [.lit (.string []), .lit (.string [84]), .lit (.string []), .lit (.string [33]), .lit (.string [38]), .lit (.string [124]), .lit (.string [88]), .lit (.string [85]), .lit (.string [82]), .lit (.string [70]), .lit (.string [71])] []

/-- 'laws.FnExactFormatFormula': WHATEVER THE INPUT: true; the input reads as it did. -/
def fnExactFormatFormulaSpec : ChangeSpec := { name := "fnExactFormatFormula", vars := ["loop.example/ltlcheck/impl.formulaSigns"], fn := fun _ => fun
  | [d, g1] => { results := [.lit (.bool true)], args := [d], vars := [g1] }
  | _ => none }
def fnExactFormatFormulaRow : OpenClaim := { program := "ytobmgfgefccnoaadoor", sum := "34ed1c31d9fdb6da0030f20cfdf0e98253e70ed1f79da4b1a0e4bdefb6e65684", func := "loop.example/ltlcheck/laws.FnExactFormatFormula", spec := "fnExactFormatFormula", unfollowed := true, recurses := true, named := ["loop.example/ltlcheck/impl.formulaSigns"], loops := true, apart := false, laid := [("loop.example/ltlcheck/impl.formulaSigns", laid_loop_example_ltlcheck_impl_formulaSigns)] }
def FnExactFormatFormulaSaid : Prop := fnExactFormatFormulaRow.holds Tryd.pinned (OpenSpec.ofChange fnExactFormatFormulaSpec)

/-- ITS FALSE NEIGHBOUR: 'it returns false'. Refute it at one input. -/
def fnExactFormatFormulaWrong : ChangeSpec := { name := "fnExactFormatFormula", vars := ["loop.example/ltlcheck/impl.formulaSigns"], fn := fun _ => fun
  | [d, g1] => { results := [.lit (.bool false)], args := [d], vars := [g1] }
  | _ => none }
def FnExactFormatFormulaWrongFalsely : Prop := fnExactFormatFormulaRow.holds Tryd.pinned (OpenSpec.ofChange fnExactFormatFormulaWrong)

/- THE SECOND FORM. 'bulk': how many values and letters a reading holds, each counted each time it is reached (what is shared counts as often as it is met; a slice's spare places count too). A statement '..UptoSaid' is the law's where the arguments, and the package variables that the reading takes, are together of bulk at most 1048576: NARROWER than '..Said'. Prove '..Said' where nothing that the law and all that it calls make is longer than what came in: it says more and counts as full. Else prove '..UptoSaid'. A law counts once. -/
mutual
def uptoBulk {H : Type} : DataW H → Nat
  | .lit (.string bytes) => bytes.length + 1
  | .lit _ => 1
  | .nil => 1
  | .ptr d => uptoBulk d + 1
  | .slice elems spare => uptoBulkAll elems + uptoBulkAll spare + 1
  | .agg parts => uptoBulkAll parts + 1
  | .iface _ d => uptoBulk d + 1
  | .map entries => uptoBulkEntries entries + 1
  | .held _ => 1
def uptoBulkAll {H : Type} : List (DataW H) → Nat
  | [] => 0
  | d :: r => uptoBulk d + uptoBulkAll r
def uptoBulkEntries {H : Type} : List (Lit × DataW H) → Nat
  | [] => 0
  | x :: r => uptoBulkEntry x + uptoBulkEntries r
def uptoBulkEntry {H : Type} : Lit × DataW H → Nat
  | (.string bytes, d) => bytes.length + uptoBulk d + 1
  | (_, d) => uptoBulk d + 1
 end
def uptoSmall : (H : Type) → List (DataW H) → Bool := fun _ ds => decide (uptoBulkAll ds ≤ 1048576)
def OpenSpec.upto (s : _root_.Go.ChangeSpec) : _root_.Go.OpenSpec := { _root_.Go.OpenSpec.ofChange s with cond := some uptoSmall }

/-- 'laws.FnExactFormatFormula', WHERE WHAT IT READS IS OF BULK AT MOST 1048576: true; the input reads as it did. -/
def fnExactFormatFormulaUptoRow : OpenClaim := { program := "ytobmgfgefccnoaadoor", sum := "34ed1c31d9fdb6da0030f20cfdf0e98253e70ed1f79da4b1a0e4bdefb6e65684", func := "loop.example/ltlcheck/laws.FnExactFormatFormula", spec := "fnExactFormatFormula", unfollowed := true, recurses := true, named := ["loop.example/ltlcheck/impl.formulaSigns"], loops := true, apart := false, laid := [("loop.example/ltlcheck/impl.formulaSigns", laid_loop_example_ltlcheck_impl_formulaSigns)], narrowed := true }
def FnExactFormatFormulaUptoSaid : Prop := fnExactFormatFormulaUptoRow.holds Tryd.pinned (OpenSpec.upto fnExactFormatFormulaSpec)

end Rows
end Go.Proofs.YtobmgfgefccnoaaDoor
