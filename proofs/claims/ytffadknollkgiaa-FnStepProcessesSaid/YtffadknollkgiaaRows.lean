/-
  No cell of these rows narrows 'for every input' (looked for: loops, veiled, ifaces, maps, wideKeys, modest, calm, conditions, laid).
  DERIVED. THE GIVEN ROWS OF THIS SEAT. 7 by the template 'for every input the law returns true; each argument reads behind the call as it read before'; 0 by the template 'total and deterministic' (their statements: YtffadknollkgiaaTotals.lean).
  GIVEN WITH THE SEED: the statements are not yours to turn. If you find one false, say at which input.
  Laid BY PROGRAM, IN A SANDBOX (cutbox-rows.mjs): the forced cells as the released guide's own fill.sh prints them over the translation 396c02c90e659142… (all of the seat's roots in one cut). By AI agents, Wed Nov 11 2026. No macro, syntax, notation, axiom, sorry.
-/
import Derived.Test.YtffadknollkgiaaChecked
import GoSem.Claim
import GoSem.ClaimJoined
import GoSem.ClaimMapViews
import Derived.JoinedTies
import Derived.KernelRfl
namespace Go.Proofs.Ytffadknollkgiaa
/- THE CELL 'sum', in the pinned program and in every row, IS THE sha256 OF THE DUMP (.gsa) THAT YtffadknollkgiaaProg.lean LOADS. Nothing in Lean hashes anything: it is a label: what it is worth is what the hold of that sum in a sandbox is worth. -/
noncomputable def Try.pinned : Pinned := { name := "ytffadknollkgiaa", sum := "396c02c90e65914233fe72c9baf4260cb0d5d957723473a33200e0d268144f60", checked := Try.checked }
namespace Rows
def none {H : Type} : Left H := { results := [], args := [] }

/-- 'laws.FnEdgeValid': WHATEVER THE INPUT: true; the input reads as it did. -/
def fnEdgeValidSpec : ChangeSpec := { name := "fnEdgeValid", fn := fun _ => fun
  | [d] => { results := [.lit (.bool true)], args := [d] }
  | _ => none }
def fnEdgeValidRow : OpenClaim := { program := "ytffadknollkgiaa", sum := "396c02c90e65914233fe72c9baf4260cb0d5d957723473a33200e0d268144f60", func := "loop.example/ltlcheck/laws.FnEdgeValid", spec := "fnEdgeValid", unfollowed := true, recurses := true, apart := false }
def FnEdgeValidSaid : Prop := fnEdgeValidRow.holds Try.pinned (OpenSpec.ofChange fnEdgeValidSpec)

/-- ITS FALSE NEIGHBOUR: 'it returns false'. Refute it at one input. -/
def fnEdgeValidWrong : ChangeSpec := { name := "fnEdgeValid", fn := fun _ => fun
  | [d] => { results := [.lit (.bool false)], args := [d] }
  | _ => none }
def FnEdgeValidWrongFalsely : Prop := fnEdgeValidRow.holds Try.pinned (OpenSpec.ofChange fnEdgeValidWrong)

/-- 'laws.FnSystemValid': WHATEVER THE INPUT: true; the input reads as it did. -/
def fnSystemValidSpec : ChangeSpec := { name := "fnSystemValid", fn := fun _ => fun
  | [d] => { results := [.lit (.bool true)], args := [d] }
  | _ => none }
def fnSystemValidRow : OpenClaim := { program := "ytffadknollkgiaa", sum := "396c02c90e65914233fe72c9baf4260cb0d5d957723473a33200e0d268144f60", func := "loop.example/ltlcheck/laws.FnSystemValid", spec := "fnSystemValid", unfollowed := true, recurses := true, apart := false }
def FnSystemValidSaid : Prop := fnSystemValidRow.holds Try.pinned (OpenSpec.ofChange fnSystemValidSpec)

/-- ITS FALSE NEIGHBOUR: 'it returns false'. Refute it at one input. -/
def fnSystemValidWrong : ChangeSpec := { name := "fnSystemValid", fn := fun _ => fun
  | [d] => { results := [.lit (.bool false)], args := [d] }
  | _ => none }
def FnSystemValidWrongFalsely : Prop := fnSystemValidRow.holds Try.pinned (OpenSpec.ofChange fnSystemValidWrong)

/-- 'laws.FnSystemReach': WHATEVER THE INPUT: true; the input reads as it did. -/
def fnSystemReachSpec : ChangeSpec := { name := "fnSystemReach", fn := fun _ => fun
  | [d] => { results := [.lit (.bool true)], args := [d] }
  | _ => none }
def fnSystemReachRow : OpenClaim := { program := "ytffadknollkgiaa", sum := "396c02c90e65914233fe72c9baf4260cb0d5d957723473a33200e0d268144f60", func := "loop.example/ltlcheck/laws.FnSystemReach", spec := "fnSystemReach", unfollowed := true, recurses := true, apart := false }
def FnSystemReachSaid : Prop := fnSystemReachRow.holds Try.pinned (OpenSpec.ofChange fnSystemReachSpec)

/-- ITS FALSE NEIGHBOUR: 'it returns false'. Refute it at one input. -/
def fnSystemReachWrong : ChangeSpec := { name := "fnSystemReach", fn := fun _ => fun
  | [d] => { results := [.lit (.bool false)], args := [d] }
  | _ => none }
def FnSystemReachWrongFalsely : Prop := fnSystemReachRow.holds Try.pinned (OpenSpec.ofChange fnSystemReachWrong)

/-- 'laws.FnSystemVars': WHATEVER THE INPUT: true; the input reads as it did. -/
def fnSystemVarsSpec : ChangeSpec := { name := "fnSystemVars", fn := fun _ => fun
  | [d] => { results := [.lit (.bool true)], args := [d] }
  | _ => none }
def fnSystemVarsRow : OpenClaim := { program := "ytffadknollkgiaa", sum := "396c02c90e65914233fe72c9baf4260cb0d5d957723473a33200e0d268144f60", func := "loop.example/ltlcheck/laws.FnSystemVars", spec := "fnSystemVars", unfollowed := true, recurses := true, apart := false }
def FnSystemVarsSaid : Prop := fnSystemVarsRow.holds Try.pinned (OpenSpec.ofChange fnSystemVarsSpec)

/-- ITS FALSE NEIGHBOUR: 'it returns false'. Refute it at one input. -/
def fnSystemVarsWrong : ChangeSpec := { name := "fnSystemVars", fn := fun _ => fun
  | [d] => { results := [.lit (.bool false)], args := [d] }
  | _ => none }
def FnSystemVarsWrongFalsely : Prop := fnSystemVarsRow.holds Try.pinned (OpenSpec.ofChange fnSystemVarsWrong)

/-- 'laws.FnInitialState': WHATEVER THE INPUT: true; the input reads as it did. -/
def fnInitialStateSpec : ChangeSpec := { name := "fnInitialState", fn := fun _ => fun
  | [d] => { results := [.lit (.bool true)], args := [d] }
  | _ => none }
def fnInitialStateRow : OpenClaim := { program := "ytffadknollkgiaa", sum := "396c02c90e65914233fe72c9baf4260cb0d5d957723473a33200e0d268144f60", func := "loop.example/ltlcheck/laws.FnInitialState", spec := "fnInitialState", unfollowed := true, recurses := true, apart := false }
def FnInitialStateSaid : Prop := fnInitialStateRow.holds Try.pinned (OpenSpec.ofChange fnInitialStateSpec)

/-- ITS FALSE NEIGHBOUR: 'it returns false'. Refute it at one input. -/
def fnInitialStateWrong : ChangeSpec := { name := "fnInitialState", fn := fun _ => fun
  | [d] => { results := [.lit (.bool false)], args := [d] }
  | _ => none }
def FnInitialStateWrongFalsely : Prop := fnInitialStateRow.holds Try.pinned (OpenSpec.ofChange fnInitialStateWrong)

/-- 'laws.FnStepProcesses': WHATEVER THE INPUT: true; the input reads as it did. -/
def fnStepProcessesSpec : ChangeSpec := { name := "fnStepProcesses", fn := fun _ => fun
  | [d] => { results := [.lit (.bool true)], args := [d] }
  | _ => none }
def fnStepProcessesRow : OpenClaim := { program := "ytffadknollkgiaa", sum := "396c02c90e65914233fe72c9baf4260cb0d5d957723473a33200e0d268144f60", func := "loop.example/ltlcheck/laws.FnStepProcesses", spec := "fnStepProcesses", unfollowed := true, recurses := true, apart := false }
def FnStepProcessesSaid : Prop := fnStepProcessesRow.holds Try.pinned (OpenSpec.ofChange fnStepProcessesSpec)

/-- ITS FALSE NEIGHBOUR: 'it returns false'. Refute it at one input. -/
def fnStepProcessesWrong : ChangeSpec := { name := "fnStepProcesses", fn := fun _ => fun
  | [d] => { results := [.lit (.bool false)], args := [d] }
  | _ => none }
def FnStepProcessesWrongFalsely : Prop := fnStepProcessesRow.holds Try.pinned (OpenSpec.ofChange fnStepProcessesWrong)

/-- 'laws.FnEnabledSteps': WHATEVER THE INPUT: true; the input reads as it did. -/
def fnEnabledStepsSpec : ChangeSpec := { name := "fnEnabledSteps", fn := fun _ => fun
  | [d] => { results := [.lit (.bool true)], args := [d] }
  | _ => none }
def fnEnabledStepsRow : OpenClaim := { program := "ytffadknollkgiaa", sum := "396c02c90e65914233fe72c9baf4260cb0d5d957723473a33200e0d268144f60", func := "loop.example/ltlcheck/laws.FnEnabledSteps", spec := "fnEnabledSteps", unfollowed := true, recurses := true, apart := false }
def FnEnabledStepsSaid : Prop := fnEnabledStepsRow.holds Try.pinned (OpenSpec.ofChange fnEnabledStepsSpec)

/-- ITS FALSE NEIGHBOUR: 'it returns false'. Refute it at one input. -/
def fnEnabledStepsWrong : ChangeSpec := { name := "fnEnabledSteps", fn := fun _ => fun
  | [d] => { results := [.lit (.bool false)], args := [d] }
  | _ => none }
def FnEnabledStepsWrongFalsely : Prop := fnEnabledStepsRow.holds Try.pinned (OpenSpec.ofChange fnEnabledStepsWrong)

/- THE SECOND FORM. 'bulk': how many values and letters a reading holds, each counted each time it is reached (what is shared counts as often as it is met; a slice's spare places count too). A statement '..UptoSaid' is the law's where the arguments, and the package variables that the reading takes, are together of bulk at most 1048576: NARROWER than '..Said'. Prove '..Said' where nothing that the law and all that it calls make is longer than what came in: it says more and counts as full. Else prove '..UptoSaid'. A law counts once. -/
mutual
def uptoBulk {H : Type} : DataW H → Nat
  | .lit (.string bytes) => bytes.length + 1
  | .lit _ => 1
  | .nil => 1
  | .ptr d => uptoBulk d + 1
  | .slice elems spare => uptoBulkAll elems + uptoBulkAll spare + 1
  | .agg parts => uptoBulkAll parts + 1
  | .iface _ d => uptoBulk d + 1
  | .map entries => uptoBulkEntries entries + 1
  | .held _ => 1
def uptoBulkAll {H : Type} : List (DataW H) → Nat
  | [] => 0
  | d :: r => uptoBulk d + uptoBulkAll r
def uptoBulkEntries {H : Type} : List (Lit × DataW H) → Nat
  | [] => 0
  | x :: r => uptoBulkEntry x + uptoBulkEntries r
def uptoBulkEntry {H : Type} : Lit × DataW H → Nat
  | (.string bytes, d) => bytes.length + uptoBulk d + 1
  | (_, d) => uptoBulk d + 1
 end
def uptoSmall : (H : Type) → List (DataW H) → Bool := fun _ ds => decide (uptoBulkAll ds ≤ 1048576)
def OpenSpec.upto (s : _root_.Go.ChangeSpec) : _root_.Go.OpenSpec := { _root_.Go.OpenSpec.ofChange s with cond := some uptoSmall }

/-- 'laws.FnEdgeValid', WHERE WHAT IT READS IS OF BULK AT MOST 1048576: true; the input reads as it did. -/
def fnEdgeValidUptoRow : OpenClaim := { program := "ytffadknollkgiaa", sum := "396c02c90e65914233fe72c9baf4260cb0d5d957723473a33200e0d268144f60", func := "loop.example/ltlcheck/laws.FnEdgeValid", spec := "fnEdgeValid", unfollowed := true, recurses := true, apart := false, narrowed := true }
def FnEdgeValidUptoSaid : Prop := fnEdgeValidUptoRow.holds Try.pinned (OpenSpec.upto fnEdgeValidSpec)

/-- 'laws.FnSystemValid', WHERE WHAT IT READS IS OF BULK AT MOST 1048576: true; the input reads as it did. -/
def fnSystemValidUptoRow : OpenClaim := { program := "ytffadknollkgiaa", sum := "396c02c90e65914233fe72c9baf4260cb0d5d957723473a33200e0d268144f60", func := "loop.example/ltlcheck/laws.FnSystemValid", spec := "fnSystemValid", unfollowed := true, recurses := true, apart := false, narrowed := true }
def FnSystemValidUptoSaid : Prop := fnSystemValidUptoRow.holds Try.pinned (OpenSpec.upto fnSystemValidSpec)

/-- 'laws.FnSystemReach', WHERE WHAT IT READS IS OF BULK AT MOST 1048576: true; the input reads as it did. -/
def fnSystemReachUptoRow : OpenClaim := { program := "ytffadknollkgiaa", sum := "396c02c90e65914233fe72c9baf4260cb0d5d957723473a33200e0d268144f60", func := "loop.example/ltlcheck/laws.FnSystemReach", spec := "fnSystemReach", unfollowed := true, recurses := true, apart := false, narrowed := true }
def FnSystemReachUptoSaid : Prop := fnSystemReachUptoRow.holds Try.pinned (OpenSpec.upto fnSystemReachSpec)

/-- 'laws.FnSystemVars', WHERE WHAT IT READS IS OF BULK AT MOST 1048576: true; the input reads as it did. -/
def fnSystemVarsUptoRow : OpenClaim := { program := "ytffadknollkgiaa", sum := "396c02c90e65914233fe72c9baf4260cb0d5d957723473a33200e0d268144f60", func := "loop.example/ltlcheck/laws.FnSystemVars", spec := "fnSystemVars", unfollowed := true, recurses := true, apart := false, narrowed := true }
def FnSystemVarsUptoSaid : Prop := fnSystemVarsUptoRow.holds Try.pinned (OpenSpec.upto fnSystemVarsSpec)

/-- 'laws.FnInitialState', WHERE WHAT IT READS IS OF BULK AT MOST 1048576: true; the input reads as it did. -/
def fnInitialStateUptoRow : OpenClaim := { program := "ytffadknollkgiaa", sum := "396c02c90e65914233fe72c9baf4260cb0d5d957723473a33200e0d268144f60", func := "loop.example/ltlcheck/laws.FnInitialState", spec := "fnInitialState", unfollowed := true, recurses := true, apart := false, narrowed := true }
def FnInitialStateUptoSaid : Prop := fnInitialStateUptoRow.holds Try.pinned (OpenSpec.upto fnInitialStateSpec)

/-- 'laws.FnStepProcesses', WHERE WHAT IT READS IS OF BULK AT MOST 1048576: true; the input reads as it did. -/
def fnStepProcessesUptoRow : OpenClaim := { program := "ytffadknollkgiaa", sum := "396c02c90e65914233fe72c9baf4260cb0d5d957723473a33200e0d268144f60", func := "loop.example/ltlcheck/laws.FnStepProcesses", spec := "fnStepProcesses", unfollowed := true, recurses := true, apart := false, narrowed := true }
def FnStepProcessesUptoSaid : Prop := fnStepProcessesUptoRow.holds Try.pinned (OpenSpec.upto fnStepProcessesSpec)

/-- 'laws.FnEnabledSteps', WHERE WHAT IT READS IS OF BULK AT MOST 1048576: true; the input reads as it did. -/
def fnEnabledStepsUptoRow : OpenClaim := { program := "ytffadknollkgiaa", sum := "396c02c90e65914233fe72c9baf4260cb0d5d957723473a33200e0d268144f60", func := "loop.example/ltlcheck/laws.FnEnabledSteps", spec := "fnEnabledSteps", unfollowed := true, recurses := true, apart := false, narrowed := true }
def FnEnabledStepsUptoSaid : Prop := fnEnabledStepsUptoRow.holds Try.pinned (OpenSpec.upto fnEnabledStepsSpec)

end Rows
end Go.Proofs.Ytffadknollkgiaa
