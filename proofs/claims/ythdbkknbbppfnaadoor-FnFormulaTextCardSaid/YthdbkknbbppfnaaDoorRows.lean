/-
  NARROWER THAN 'FOR EVERY INPUT', by the rows' own cells (each row's printed sentence says how): FnFormulaText: laid.
  DERIVED. THE GIVEN ROWS OF THIS SEAT. 1 by the template 'for every input the law returns true; each argument reads behind the call as it read before'; 0 by the template 'total and deterministic' (their statements: YthdbkknbbppfnaaDoorTotals.lean).
  GIVEN WITH THE SEED: the statements are not yours to turn. If you find one false, say at which input.
  Laid BY PROGRAM, IN A SANDBOX (cutbox-rows.mjs): the forced cells as the released guide's own fill.sh prints them over the translation 6779b4d41794442b… (all of the seat's roots in one cut). By AI agents, Wed Nov 11 2026. No macro, syntax, notation, axiom, sorry.
-/
import Derived.Test.YthdbkknbbppfnaaDoorChecked
import GoSem.Claim
import GoSem.ClaimJoined
import GoSem.ClaimMapViews
import Derived.JoinedTies
import Derived.KernelRfl
namespace Go.Proofs.YthdbkknbbppfnaaDoor
/- THE CELL 'sum', in the pinned program and in every row, IS THE sha256 OF THE DUMP (.gsa) THAT YthdbkknbbppfnaaDoorProg.lean LOADS. Nothing in Lean hashes anything: it is a label: what it is worth is what the hold of that sum in a sandbox is worth. -/
noncomputable def Tryd.pinned : Pinned := { name := "ythdbkknbbppfnaadoor", sum := "6779b4d41794442b2f4e5f8503fd42e7269cc8d3ca15becb102641fe32fb6dcb", checked := Tryd.checked }
namespace Rows
def none {H : Type} : Left H := { results := [], args := [] }

/- WHAT THE LISTED PACKAGE-LEVEL VARIABLES READ AS WHEN THE CALL BEGINS. Each datum BY PROGRAM (the guide's laid-datum.mjs) off the statement by which the dump's own 'gosem.cut.vars' lays the variable. In a bare row this is a premise. The card (YthdbkknbbppfnaaDoorCards.lean) ties it to the program's text. -/
def laid_loop_example_ltlcheck_impl_formulaSigns {H : Type} : DataW H := .slice [.lit (.string []), .lit (.string [84]), .lit (.string []), .lit (.string [33]), .lit (.string [38]), .lit (.string [124]), .lit (.string [88]), .lit (.string [85]), .lit (.string [82]), .lit (.string [70]), .lit (.string [71])] []

/-- 'laws.FnFormulaText': WHATEVER THE INPUT: true; the input reads as it did. -/
def fnFormulaTextSpec : ChangeSpec := { name := "fnFormulaText", vars := ["loop.example/ltlcheck/impl.formulaSigns"], fn := fun _ => fun
  | [d1, d2, g1] => { results := [.lit (.bool true)], args := [d1, d2], vars := [g1] }
  | _ => none }
def fnFormulaTextRow : OpenClaim := { program := "ythdbkknbbppfnaadoor", sum := "6779b4d41794442b2f4e5f8503fd42e7269cc8d3ca15becb102641fe32fb6dcb", func := "loop.example/ltlcheck/laws.FnFormulaText", spec := "fnFormulaText", inPlace := ["internal/bytealg.IndexByteString"], unfollowed := true, recurses := true, named := ["loop.example/ltlcheck/impl.formulaSigns"], apart := false, laid := [("loop.example/ltlcheck/impl.formulaSigns", laid_loop_example_ltlcheck_impl_formulaSigns)] }
def FnFormulaTextSaid : Prop := fnFormulaTextRow.holds Tryd.pinned (OpenSpec.ofChange fnFormulaTextSpec)

/-- ITS FALSE NEIGHBOUR: 'it returns false'. Refute it at one input. -/
def fnFormulaTextWrong : ChangeSpec := { name := "fnFormulaText", vars := ["loop.example/ltlcheck/impl.formulaSigns"], fn := fun _ => fun
  | [d1, d2, g1] => { results := [.lit (.bool false)], args := [d1, d2], vars := [g1] }
  | _ => none }
def FnFormulaTextWrongFalsely : Prop := fnFormulaTextRow.holds Tryd.pinned (OpenSpec.ofChange fnFormulaTextWrong)

/- THE SECOND FORM. 'bulk': how many values and letters a reading holds, each counted each time it is reached (what is shared counts as often as it is met; a slice's spare places count too). A statement '..UptoSaid' is the law's where the arguments, and the package variables that the reading takes, are together of bulk at most 1048576: NARROWER than '..Said'. Prove '..Said' where nothing that the law and all that it calls make is longer than what came in: it says more and counts as full. Else prove '..UptoSaid'. A law counts once. -/
mutual
def uptoBulk {H : Type} : DataW H → Nat
  | .lit (.string bytes) => bytes.length + 1
  | .lit _ => 1
  | .nil => 1
  | .ptr d => uptoBulk d + 1
  | .slice elems spare => uptoBulkAll elems + uptoBulkAll spare + 1
  | .agg parts => uptoBulkAll parts + 1
  | .iface _ d => uptoBulk d + 1
  | .map entries => uptoBulkEntries entries + 1
  | .held _ => 1
def uptoBulkAll {H : Type} : List (DataW H) → Nat
  | [] => 0
  | d :: r => uptoBulk d + uptoBulkAll r
def uptoBulkEntries {H : Type} : List (Lit × DataW H) → Nat
  | [] => 0
  | x :: r => uptoBulkEntry x + uptoBulkEntries r
def uptoBulkEntry {H : Type} : Lit × DataW H → Nat
  | (.string bytes, d) => bytes.length + uptoBulk d + 1
  | (_, d) => uptoBulk d + 1
 end
def uptoSmall : (H : Type) → List (DataW H) → Bool := fun _ ds => decide (uptoBulkAll ds ≤ 1048576)
def OpenSpec.upto (s : _root_.Go.ChangeSpec) : _root_.Go.OpenSpec := { _root_.Go.OpenSpec.ofChange s with cond := some uptoSmall }

/-- 'laws.FnFormulaText', WHERE WHAT IT READS IS OF BULK AT MOST 1048576: true; the input reads as it did. -/
def fnFormulaTextUptoRow : OpenClaim := { program := "ythdbkknbbppfnaadoor", sum := "6779b4d41794442b2f4e5f8503fd42e7269cc8d3ca15becb102641fe32fb6dcb", func := "loop.example/ltlcheck/laws.FnFormulaText", spec := "fnFormulaText", inPlace := ["internal/bytealg.IndexByteString"], unfollowed := true, recurses := true, named := ["loop.example/ltlcheck/impl.formulaSigns"], apart := false, laid := [("loop.example/ltlcheck/impl.formulaSigns", laid_loop_example_ltlcheck_impl_formulaSigns)], narrowed := true }
def FnFormulaTextUptoSaid : Prop := fnFormulaTextUptoRow.holds Tryd.pinned (OpenSpec.upto fnFormulaTextSpec)

end Rows
end Go.Proofs.YthdbkknbbppfnaaDoor
