/-
  NARROWER THAN 'FOR EVERY INPUT', by the rows' own cells (each row's printed sentence says how): FnExactSatisfies: loops.
  DERIVED. THE GIVEN ROWS OF THIS SEAT. 7 by the template 'for every input the law returns true; each argument reads behind the call as it read before'; 0 by the template 'total and deterministic' (their statements: YtbeljjalfhogdaaTotals.lean).
  GIVEN WITH THE SEED: the statements are not yours to turn. If you find one false, say at which input.
  Laid BY PROGRAM, IN A SANDBOX (cutbox-rows.mjs): the forced cells as the released guide's own fill.sh prints them over the translation e69a8fe5b5c13c5a… (all of the seat's roots in one cut). By AI agents, Wed Nov 11 2026. No macro, syntax, notation, axiom, sorry.
-/
import Derived.Test.YtbeljjalfhogdaaChecked
import GoSem.Claim
import GoSem.ClaimJoined
import GoSem.ClaimMapViews
import Derived.JoinedTies
import Derived.KernelRfl
namespace Go.Proofs.Ytbeljjalfhogdaa
/- THE CELL 'sum', in the pinned program and in every row, IS THE sha256 OF THE DUMP (.gsa) THAT YtbeljjalfhogdaaProg.lean LOADS. Nothing in Lean hashes anything: it is a label: what it is worth is what the hold of that sum in a sandbox is worth. -/
noncomputable def Try.pinned : Pinned := { name := "ytbeljjalfhogdaa", sum := "e69a8fe5b5c13c5a841fe56a6ef9cd28061d3adbb50e6abaf9f922328b669da7", checked := Try.checked }
namespace Rows
def none {H : Type} : Left H := { results := [], args := [] }

/-- 'laws.FnFairness': WHATEVER THE INPUT: true; the input reads as it did. -/
def fnFairnessSpec : ChangeSpec := { name := "fnFairness", fn := fun _ => fun
  | [d] => { results := [.lit (.bool true)], args := [d] }
  | _ => none }
def fnFairnessRow : OpenClaim := { program := "ytbeljjalfhogdaa", sum := "e69a8fe5b5c13c5a841fe56a6ef9cd28061d3adbb50e6abaf9f922328b669da7", func := "loop.example/ltlcheck/laws.FnFairness", spec := "fnFairness", unfollowed := true, recurses := true, apart := false }
def FnFairnessSaid : Prop := fnFairnessRow.holds Try.pinned (OpenSpec.ofChange fnFairnessSpec)

/-- ITS FALSE NEIGHBOUR: 'it returns false'. Refute it at one input. -/
def fnFairnessWrong : ChangeSpec := { name := "fnFairness", fn := fun _ => fun
  | [d] => { results := [.lit (.bool false)], args := [d] }
  | _ => none }
def FnFairnessWrongFalsely : Prop := fnFairnessRow.holds Try.pinned (OpenSpec.ofChange fnFairnessWrong)

/-- 'laws.FnSatisfiesDual': WHATEVER THE INPUT: true; the input reads as it did. -/
def fnSatisfiesDualSpec : ChangeSpec := { name := "fnSatisfiesDual", fn := fun _ => fun
  | [d1, d2] => { results := [.lit (.bool true)], args := [d1, d2] }
  | _ => none }
def fnSatisfiesDualRow : OpenClaim := { program := "ytbeljjalfhogdaa", sum := "e69a8fe5b5c13c5a841fe56a6ef9cd28061d3adbb50e6abaf9f922328b669da7", func := "loop.example/ltlcheck/laws.FnSatisfiesDual", spec := "fnSatisfiesDual", unfollowed := true, recurses := true, apart := false }
def FnSatisfiesDualSaid : Prop := fnSatisfiesDualRow.holds Try.pinned (OpenSpec.ofChange fnSatisfiesDualSpec)

/-- ITS FALSE NEIGHBOUR: 'it returns false'. Refute it at one input. -/
def fnSatisfiesDualWrong : ChangeSpec := { name := "fnSatisfiesDual", fn := fun _ => fun
  | [d1, d2] => { results := [.lit (.bool false)], args := [d1, d2] }
  | _ => none }
def FnSatisfiesDualWrongFalsely : Prop := fnSatisfiesDualRow.holds Try.pinned (OpenSpec.ofChange fnSatisfiesDualWrong)

/-- 'laws.FnExactSatisfies': WHATEVER THE INPUT: true; the input reads as it did. -/
def fnExactSatisfiesSpec : ChangeSpec := { name := "fnExactSatisfies", fn := fun _ => fun
  | [d1, d2] => { results := [.lit (.bool true)], args := [d1, d2] }
  | _ => none }
def fnExactSatisfiesRow : OpenClaim := { program := "ytbeljjalfhogdaa", sum := "e69a8fe5b5c13c5a841fe56a6ef9cd28061d3adbb50e6abaf9f922328b669da7", func := "loop.example/ltlcheck/laws.FnExactSatisfies", spec := "fnExactSatisfies", unfollowed := true, recurses := true, loops := true, apart := false }
def FnExactSatisfiesSaid : Prop := fnExactSatisfiesRow.holds Try.pinned (OpenSpec.ofChange fnExactSatisfiesSpec)

/-- ITS FALSE NEIGHBOUR: 'it returns false'. Refute it at one input. -/
def fnExactSatisfiesWrong : ChangeSpec := { name := "fnExactSatisfies", fn := fun _ => fun
  | [d1, d2] => { results := [.lit (.bool false)], args := [d1, d2] }
  | _ => none }
def FnExactSatisfiesWrongFalsely : Prop := fnExactSatisfiesRow.holds Try.pinned (OpenSpec.ofChange fnExactSatisfiesWrong)

/-- 'laws.FnSatisfiesLater': WHATEVER THE INPUT: true; the input reads as it did. -/
def fnSatisfiesLaterSpec : ChangeSpec := { name := "fnSatisfiesLater", fn := fun _ => fun
  | [d1, d2] => { results := [.lit (.bool true)], args := [d1, d2] }
  | _ => none }
def fnSatisfiesLaterRow : OpenClaim := { program := "ytbeljjalfhogdaa", sum := "e69a8fe5b5c13c5a841fe56a6ef9cd28061d3adbb50e6abaf9f922328b669da7", func := "loop.example/ltlcheck/laws.FnSatisfiesLater", spec := "fnSatisfiesLater", unfollowed := true, recurses := true, apart := false }
def FnSatisfiesLaterSaid : Prop := fnSatisfiesLaterRow.holds Try.pinned (OpenSpec.ofChange fnSatisfiesLaterSpec)

/-- ITS FALSE NEIGHBOUR: 'it returns false'. Refute it at one input. -/
def fnSatisfiesLaterWrong : ChangeSpec := { name := "fnSatisfiesLater", fn := fun _ => fun
  | [d1, d2] => { results := [.lit (.bool false)], args := [d1, d2] }
  | _ => none }
def FnSatisfiesLaterWrongFalsely : Prop := fnSatisfiesLaterRow.holds Try.pinned (OpenSpec.ofChange fnSatisfiesLaterWrong)

/-- 'laws.FnSatisfiesExpand': WHATEVER THE INPUT: true; the input reads as it did. -/
def fnSatisfiesExpandSpec : ChangeSpec := { name := "fnSatisfiesExpand", fn := fun _ => fun
  | [d] => { results := [.lit (.bool true)], args := [d] }
  | _ => none }
def fnSatisfiesExpandRow : OpenClaim := { program := "ytbeljjalfhogdaa", sum := "e69a8fe5b5c13c5a841fe56a6ef9cd28061d3adbb50e6abaf9f922328b669da7", func := "loop.example/ltlcheck/laws.FnSatisfiesExpand", spec := "fnSatisfiesExpand", unfollowed := true, recurses := true, apart := false }
def FnSatisfiesExpandSaid : Prop := fnSatisfiesExpandRow.holds Try.pinned (OpenSpec.ofChange fnSatisfiesExpandSpec)

/-- ITS FALSE NEIGHBOUR: 'it returns false'. Refute it at one input. -/
def fnSatisfiesExpandWrong : ChangeSpec := { name := "fnSatisfiesExpand", fn := fun _ => fun
  | [d] => { results := [.lit (.bool false)], args := [d] }
  | _ => none }
def FnSatisfiesExpandWrongFalsely : Prop := fnSatisfiesExpandRow.holds Try.pinned (OpenSpec.ofChange fnSatisfiesExpandWrong)

/-- 'laws.FnSatisfiesWord': WHATEVER THE INPUT: true; the input reads as it did. -/
def fnSatisfiesWordSpec : ChangeSpec := { name := "fnSatisfiesWord", fn := fun _ => fun
  | [d1, d2] => { results := [.lit (.bool true)], args := [d1, d2] }
  | _ => none }
def fnSatisfiesWordRow : OpenClaim := { program := "ytbeljjalfhogdaa", sum := "e69a8fe5b5c13c5a841fe56a6ef9cd28061d3adbb50e6abaf9f922328b669da7", func := "loop.example/ltlcheck/laws.FnSatisfiesWord", spec := "fnSatisfiesWord", unfollowed := true, recurses := true, apart := false }
def FnSatisfiesWordSaid : Prop := fnSatisfiesWordRow.holds Try.pinned (OpenSpec.ofChange fnSatisfiesWordSpec)

/-- ITS FALSE NEIGHBOUR: 'it returns false'. Refute it at one input. -/
def fnSatisfiesWordWrong : ChangeSpec := { name := "fnSatisfiesWord", fn := fun _ => fun
  | [d1, d2] => { results := [.lit (.bool false)], args := [d1, d2] }
  | _ => none }
def FnSatisfiesWordWrongFalsely : Prop := fnSatisfiesWordRow.holds Try.pinned (OpenSpec.ofChange fnSatisfiesWordWrong)

/-- 'laws.FnSatisfiesNormal': WHATEVER THE INPUT: true; the input reads as it did. -/
def fnSatisfiesNormalSpec : ChangeSpec := { name := "fnSatisfiesNormal", fn := fun _ => fun
  | [d] => { results := [.lit (.bool true)], args := [d] }
  | _ => none }
def fnSatisfiesNormalRow : OpenClaim := { program := "ytbeljjalfhogdaa", sum := "e69a8fe5b5c13c5a841fe56a6ef9cd28061d3adbb50e6abaf9f922328b669da7", func := "loop.example/ltlcheck/laws.FnSatisfiesNormal", spec := "fnSatisfiesNormal", unfollowed := true, recurses := true, apart := false }
def FnSatisfiesNormalSaid : Prop := fnSatisfiesNormalRow.holds Try.pinned (OpenSpec.ofChange fnSatisfiesNormalSpec)

/-- ITS FALSE NEIGHBOUR: 'it returns false'. Refute it at one input. -/
def fnSatisfiesNormalWrong : ChangeSpec := { name := "fnSatisfiesNormal", fn := fun _ => fun
  | [d] => { results := [.lit (.bool false)], args := [d] }
  | _ => none }
def FnSatisfiesNormalWrongFalsely : Prop := fnSatisfiesNormalRow.holds Try.pinned (OpenSpec.ofChange fnSatisfiesNormalWrong)

/- THE SECOND FORM. 'bulk': how many values and letters a reading holds, each counted each time it is reached (what is shared counts as often as it is met; a slice's spare places count too). A statement '..UptoSaid' is the law's where the arguments, and the package variables that the reading takes, are together of bulk at most 1048576: NARROWER than '..Said'. Prove '..Said' where nothing that the law and all that it calls make is longer than what came in: it says more and counts as full. Else prove '..UptoSaid'. A law counts once. -/
mutual
def uptoBulk {H : Type} : DataW H → Nat
  | .lit (.string bytes) => bytes.length + 1
  | .lit _ => 1
  | .nil => 1
  | .ptr d => uptoBulk d + 1
  | .slice elems spare => uptoBulkAll elems + uptoBulkAll spare + 1
  | .agg parts => uptoBulkAll parts + 1
  | .iface _ d => uptoBulk d + 1
  | .map entries => uptoBulkEntries entries + 1
  | .held _ => 1
def uptoBulkAll {H : Type} : List (DataW H) → Nat
  | [] => 0
  | d :: r => uptoBulk d + uptoBulkAll r
def uptoBulkEntries {H : Type} : List (Lit × DataW H) → Nat
  | [] => 0
  | x :: r => uptoBulkEntry x + uptoBulkEntries r
def uptoBulkEntry {H : Type} : Lit × DataW H → Nat
  | (.string bytes, d) => bytes.length + uptoBulk d + 1
  | (_, d) => uptoBulk d + 1
 end
def uptoSmall : (H : Type) → List (DataW H) → Bool := fun _ ds => decide (uptoBulkAll ds ≤ 1048576)
def OpenSpec.upto (s : _root_.Go.ChangeSpec) : _root_.Go.OpenSpec := { _root_.Go.OpenSpec.ofChange s with cond := some uptoSmall }

/-- 'laws.FnFairness', WHERE WHAT IT READS IS OF BULK AT MOST 1048576: true; the input reads as it did. -/
def fnFairnessUptoRow : OpenClaim := { program := "ytbeljjalfhogdaa", sum := "e69a8fe5b5c13c5a841fe56a6ef9cd28061d3adbb50e6abaf9f922328b669da7", func := "loop.example/ltlcheck/laws.FnFairness", spec := "fnFairness", unfollowed := true, recurses := true, apart := false, narrowed := true }
def FnFairnessUptoSaid : Prop := fnFairnessUptoRow.holds Try.pinned (OpenSpec.upto fnFairnessSpec)

/-- 'laws.FnSatisfiesDual', WHERE WHAT IT READS IS OF BULK AT MOST 1048576: true; the input reads as it did. -/
def fnSatisfiesDualUptoRow : OpenClaim := { program := "ytbeljjalfhogdaa", sum := "e69a8fe5b5c13c5a841fe56a6ef9cd28061d3adbb50e6abaf9f922328b669da7", func := "loop.example/ltlcheck/laws.FnSatisfiesDual", spec := "fnSatisfiesDual", unfollowed := true, recurses := true, apart := false, narrowed := true }
def FnSatisfiesDualUptoSaid : Prop := fnSatisfiesDualUptoRow.holds Try.pinned (OpenSpec.upto fnSatisfiesDualSpec)

/-- 'laws.FnExactSatisfies', WHERE WHAT IT READS IS OF BULK AT MOST 1048576: true; the input reads as it did. -/
def fnExactSatisfiesUptoRow : OpenClaim := { program := "ytbeljjalfhogdaa", sum := "e69a8fe5b5c13c5a841fe56a6ef9cd28061d3adbb50e6abaf9f922328b669da7", func := "loop.example/ltlcheck/laws.FnExactSatisfies", spec := "fnExactSatisfies", unfollowed := true, recurses := true, loops := true, apart := false, narrowed := true }
def FnExactSatisfiesUptoSaid : Prop := fnExactSatisfiesUptoRow.holds Try.pinned (OpenSpec.upto fnExactSatisfiesSpec)

/-- 'laws.FnSatisfiesLater', WHERE WHAT IT READS IS OF BULK AT MOST 1048576: true; the input reads as it did. -/
def fnSatisfiesLaterUptoRow : OpenClaim := { program := "ytbeljjalfhogdaa", sum := "e69a8fe5b5c13c5a841fe56a6ef9cd28061d3adbb50e6abaf9f922328b669da7", func := "loop.example/ltlcheck/laws.FnSatisfiesLater", spec := "fnSatisfiesLater", unfollowed := true, recurses := true, apart := false, narrowed := true }
def FnSatisfiesLaterUptoSaid : Prop := fnSatisfiesLaterUptoRow.holds Try.pinned (OpenSpec.upto fnSatisfiesLaterSpec)

/-- 'laws.FnSatisfiesExpand', WHERE WHAT IT READS IS OF BULK AT MOST 1048576: true; the input reads as it did. -/
def fnSatisfiesExpandUptoRow : OpenClaim := { program := "ytbeljjalfhogdaa", sum := "e69a8fe5b5c13c5a841fe56a6ef9cd28061d3adbb50e6abaf9f922328b669da7", func := "loop.example/ltlcheck/laws.FnSatisfiesExpand", spec := "fnSatisfiesExpand", unfollowed := true, recurses := true, apart := false, narrowed := true }
def FnSatisfiesExpandUptoSaid : Prop := fnSatisfiesExpandUptoRow.holds Try.pinned (OpenSpec.upto fnSatisfiesExpandSpec)

/-- 'laws.FnSatisfiesWord', WHERE WHAT IT READS IS OF BULK AT MOST 1048576: true; the input reads as it did. -/
def fnSatisfiesWordUptoRow : OpenClaim := { program := "ytbeljjalfhogdaa", sum := "e69a8fe5b5c13c5a841fe56a6ef9cd28061d3adbb50e6abaf9f922328b669da7", func := "loop.example/ltlcheck/laws.FnSatisfiesWord", spec := "fnSatisfiesWord", unfollowed := true, recurses := true, apart := false, narrowed := true }
def FnSatisfiesWordUptoSaid : Prop := fnSatisfiesWordUptoRow.holds Try.pinned (OpenSpec.upto fnSatisfiesWordSpec)

/-- 'laws.FnSatisfiesNormal', WHERE WHAT IT READS IS OF BULK AT MOST 1048576: true; the input reads as it did. -/
def fnSatisfiesNormalUptoRow : OpenClaim := { program := "ytbeljjalfhogdaa", sum := "e69a8fe5b5c13c5a841fe56a6ef9cd28061d3adbb50e6abaf9f922328b669da7", func := "loop.example/ltlcheck/laws.FnSatisfiesNormal", spec := "fnSatisfiesNormal", unfollowed := true, recurses := true, apart := false, narrowed := true }
def FnSatisfiesNormalUptoSaid : Prop := fnSatisfiesNormalUptoRow.holds Try.pinned (OpenSpec.upto fnSatisfiesNormalSpec)

end Rows
end Go.Proofs.Ytbeljjalfhogdaa
