/-
  NARROWER THAN 'FOR EVERY INPUT', by the rows' own cells (each row's printed sentence says how): FnExactEdgeValid: loops · FnExactSystemValid: loops · FnExactSystemReach: loops · FnExactSystemVars: loops · FnExactEnabledSteps: loops · FnExactStateValid: loops · FnExactStepProcesses: loops · FnExactInitialState: loops · FnExactIsDeadlock: loops.
  DERIVED. THE GIVEN ROWS OF THIS SEAT. 9 by the template 'for every input the law returns true; each argument reads behind the call as it read before'; 0 by the template 'total and deterministic' (their statements: YtchlpeflfiecdaaTotals.lean).
  GIVEN WITH THE SEED: the statements are not yours to turn. If you find one false, say at which input.
  Laid BY PROGRAM, IN A SANDBOX (cutbox-rows.mjs): the forced cells as the released guide's own fill.sh prints them over the translation 6c481898260a4f8d… (all of the seat's roots in one cut). By AI agents, Wed Nov 11 2026. No macro, syntax, notation, axiom, sorry.
-/
import Derived.Test.YtchlpeflfiecdaaChecked
import GoSem.Claim
import GoSem.ClaimJoined
import GoSem.ClaimMapViews
import Derived.JoinedTies
import Derived.KernelRfl
namespace Go.Proofs.Ytchlpeflfiecdaa
/- THE CELL 'sum', in the pinned program and in every row, IS THE sha256 OF THE DUMP (.gsa) THAT YtchlpeflfiecdaaProg.lean LOADS. Nothing in Lean hashes anything: it is a label: what it is worth is what the hold of that sum in a sandbox is worth. -/
noncomputable def Try.pinned : Pinned := { name := "ytchlpeflfiecdaa", sum := "6c481898260a4f8dd1c73c315935a2e45836e8458091cd9faa600606e02e40df", checked := Try.checked }
namespace Rows
def none {H : Type} : Left H := { results := [], args := [] }

/-- 'laws.FnExactEdgeValid': WHATEVER THE INPUT: true; the input reads as it did. -/
def fnExactEdgeValidSpec : ChangeSpec := { name := "fnExactEdgeValid", fn := fun _ => fun
  | [d1, d2] => { results := [.lit (.bool true)], args := [d1, d2] }
  | _ => none }
def fnExactEdgeValidRow : OpenClaim := { program := "ytchlpeflfiecdaa", sum := "6c481898260a4f8dd1c73c315935a2e45836e8458091cd9faa600606e02e40df", func := "loop.example/ltlcheck/laws.FnExactEdgeValid", spec := "fnExactEdgeValid", unfollowed := true, recurses := true, loops := true, apart := false }
def FnExactEdgeValidSaid : Prop := fnExactEdgeValidRow.holds Try.pinned (OpenSpec.ofChange fnExactEdgeValidSpec)

/-- ITS FALSE NEIGHBOUR: 'it returns false'. Refute it at one input. -/
def fnExactEdgeValidWrong : ChangeSpec := { name := "fnExactEdgeValid", fn := fun _ => fun
  | [d1, d2] => { results := [.lit (.bool false)], args := [d1, d2] }
  | _ => none }
def FnExactEdgeValidWrongFalsely : Prop := fnExactEdgeValidRow.holds Try.pinned (OpenSpec.ofChange fnExactEdgeValidWrong)

/-- 'laws.FnExactSystemValid': WHATEVER THE INPUT: true; the input reads as it did. -/
def fnExactSystemValidSpec : ChangeSpec := { name := "fnExactSystemValid", fn := fun _ => fun
  | [d] => { results := [.lit (.bool true)], args := [d] }
  | _ => none }
def fnExactSystemValidRow : OpenClaim := { program := "ytchlpeflfiecdaa", sum := "6c481898260a4f8dd1c73c315935a2e45836e8458091cd9faa600606e02e40df", func := "loop.example/ltlcheck/laws.FnExactSystemValid", spec := "fnExactSystemValid", unfollowed := true, recurses := true, loops := true, apart := false }
def FnExactSystemValidSaid : Prop := fnExactSystemValidRow.holds Try.pinned (OpenSpec.ofChange fnExactSystemValidSpec)

/-- ITS FALSE NEIGHBOUR: 'it returns false'. Refute it at one input. -/
def fnExactSystemValidWrong : ChangeSpec := { name := "fnExactSystemValid", fn := fun _ => fun
  | [d] => { results := [.lit (.bool false)], args := [d] }
  | _ => none }
def FnExactSystemValidWrongFalsely : Prop := fnExactSystemValidRow.holds Try.pinned (OpenSpec.ofChange fnExactSystemValidWrong)

/-- 'laws.FnExactSystemReach': WHATEVER THE INPUT: true; the input reads as it did. -/
def fnExactSystemReachSpec : ChangeSpec := { name := "fnExactSystemReach", fn := fun _ => fun
  | [d1, d2] => { results := [.lit (.bool true)], args := [d1, d2] }
  | _ => none }
def fnExactSystemReachRow : OpenClaim := { program := "ytchlpeflfiecdaa", sum := "6c481898260a4f8dd1c73c315935a2e45836e8458091cd9faa600606e02e40df", func := "loop.example/ltlcheck/laws.FnExactSystemReach", spec := "fnExactSystemReach", unfollowed := true, recurses := true, loops := true, apart := false }
def FnExactSystemReachSaid : Prop := fnExactSystemReachRow.holds Try.pinned (OpenSpec.ofChange fnExactSystemReachSpec)

/-- ITS FALSE NEIGHBOUR: 'it returns false'. Refute it at one input. -/
def fnExactSystemReachWrong : ChangeSpec := { name := "fnExactSystemReach", fn := fun _ => fun
  | [d1, d2] => { results := [.lit (.bool false)], args := [d1, d2] }
  | _ => none }
def FnExactSystemReachWrongFalsely : Prop := fnExactSystemReachRow.holds Try.pinned (OpenSpec.ofChange fnExactSystemReachWrong)

/-- 'laws.FnExactSystemVars': WHATEVER THE INPUT: true; the input reads as it did. -/
def fnExactSystemVarsSpec : ChangeSpec := { name := "fnExactSystemVars", fn := fun _ => fun
  | [d] => { results := [.lit (.bool true)], args := [d] }
  | _ => none }
def fnExactSystemVarsRow : OpenClaim := { program := "ytchlpeflfiecdaa", sum := "6c481898260a4f8dd1c73c315935a2e45836e8458091cd9faa600606e02e40df", func := "loop.example/ltlcheck/laws.FnExactSystemVars", spec := "fnExactSystemVars", unfollowed := true, recurses := true, loops := true, apart := false }
def FnExactSystemVarsSaid : Prop := fnExactSystemVarsRow.holds Try.pinned (OpenSpec.ofChange fnExactSystemVarsSpec)

/-- ITS FALSE NEIGHBOUR: 'it returns false'. Refute it at one input. -/
def fnExactSystemVarsWrong : ChangeSpec := { name := "fnExactSystemVars", fn := fun _ => fun
  | [d] => { results := [.lit (.bool false)], args := [d] }
  | _ => none }
def FnExactSystemVarsWrongFalsely : Prop := fnExactSystemVarsRow.holds Try.pinned (OpenSpec.ofChange fnExactSystemVarsWrong)

/-- 'laws.FnExactEnabledSteps': WHATEVER THE INPUT: true; the input reads as it did. -/
def fnExactEnabledStepsSpec : ChangeSpec := { name := "fnExactEnabledSteps", fn := fun _ => fun
  | [d1, d2] => { results := [.lit (.bool true)], args := [d1, d2] }
  | _ => none }
def fnExactEnabledStepsRow : OpenClaim := { program := "ytchlpeflfiecdaa", sum := "6c481898260a4f8dd1c73c315935a2e45836e8458091cd9faa600606e02e40df", func := "loop.example/ltlcheck/laws.FnExactEnabledSteps", spec := "fnExactEnabledSteps", unfollowed := true, recurses := true, loops := true, apart := false }
def FnExactEnabledStepsSaid : Prop := fnExactEnabledStepsRow.holds Try.pinned (OpenSpec.ofChange fnExactEnabledStepsSpec)

/-- ITS FALSE NEIGHBOUR: 'it returns false'. Refute it at one input. -/
def fnExactEnabledStepsWrong : ChangeSpec := { name := "fnExactEnabledSteps", fn := fun _ => fun
  | [d1, d2] => { results := [.lit (.bool false)], args := [d1, d2] }
  | _ => none }
def FnExactEnabledStepsWrongFalsely : Prop := fnExactEnabledStepsRow.holds Try.pinned (OpenSpec.ofChange fnExactEnabledStepsWrong)

/-- 'laws.FnExactStateValid': WHATEVER THE INPUT: true; the input reads as it did. -/
def fnExactStateValidSpec : ChangeSpec := { name := "fnExactStateValid", fn := fun _ => fun
  | [d1, d2] => { results := [.lit (.bool true)], args := [d1, d2] }
  | _ => none }
def fnExactStateValidRow : OpenClaim := { program := "ytchlpeflfiecdaa", sum := "6c481898260a4f8dd1c73c315935a2e45836e8458091cd9faa600606e02e40df", func := "loop.example/ltlcheck/laws.FnExactStateValid", spec := "fnExactStateValid", unfollowed := true, recurses := true, loops := true, apart := false }
def FnExactStateValidSaid : Prop := fnExactStateValidRow.holds Try.pinned (OpenSpec.ofChange fnExactStateValidSpec)

/-- ITS FALSE NEIGHBOUR: 'it returns false'. Refute it at one input. -/
def fnExactStateValidWrong : ChangeSpec := { name := "fnExactStateValid", fn := fun _ => fun
  | [d1, d2] => { results := [.lit (.bool false)], args := [d1, d2] }
  | _ => none }
def FnExactStateValidWrongFalsely : Prop := fnExactStateValidRow.holds Try.pinned (OpenSpec.ofChange fnExactStateValidWrong)

/-- 'laws.FnExactStepProcesses': WHATEVER THE INPUT: true; the input reads as it did. -/
def fnExactStepProcessesSpec : ChangeSpec := { name := "fnExactStepProcesses", fn := fun _ => fun
  | [d1, d2] => { results := [.lit (.bool true)], args := [d1, d2] }
  | _ => none }
def fnExactStepProcessesRow : OpenClaim := { program := "ytchlpeflfiecdaa", sum := "6c481898260a4f8dd1c73c315935a2e45836e8458091cd9faa600606e02e40df", func := "loop.example/ltlcheck/laws.FnExactStepProcesses", spec := "fnExactStepProcesses", unfollowed := true, recurses := true, loops := true, apart := false }
def FnExactStepProcessesSaid : Prop := fnExactStepProcessesRow.holds Try.pinned (OpenSpec.ofChange fnExactStepProcessesSpec)

/-- ITS FALSE NEIGHBOUR: 'it returns false'. Refute it at one input. -/
def fnExactStepProcessesWrong : ChangeSpec := { name := "fnExactStepProcesses", fn := fun _ => fun
  | [d1, d2] => { results := [.lit (.bool false)], args := [d1, d2] }
  | _ => none }
def FnExactStepProcessesWrongFalsely : Prop := fnExactStepProcessesRow.holds Try.pinned (OpenSpec.ofChange fnExactStepProcessesWrong)

/-- 'laws.FnExactInitialState': WHATEVER THE INPUT: true; the input reads as it did. -/
def fnExactInitialStateSpec : ChangeSpec := { name := "fnExactInitialState", fn := fun _ => fun
  | [d] => { results := [.lit (.bool true)], args := [d] }
  | _ => none }
def fnExactInitialStateRow : OpenClaim := { program := "ytchlpeflfiecdaa", sum := "6c481898260a4f8dd1c73c315935a2e45836e8458091cd9faa600606e02e40df", func := "loop.example/ltlcheck/laws.FnExactInitialState", spec := "fnExactInitialState", unfollowed := true, recurses := true, loops := true, apart := false }
def FnExactInitialStateSaid : Prop := fnExactInitialStateRow.holds Try.pinned (OpenSpec.ofChange fnExactInitialStateSpec)

/-- ITS FALSE NEIGHBOUR: 'it returns false'. Refute it at one input. -/
def fnExactInitialStateWrong : ChangeSpec := { name := "fnExactInitialState", fn := fun _ => fun
  | [d] => { results := [.lit (.bool false)], args := [d] }
  | _ => none }
def FnExactInitialStateWrongFalsely : Prop := fnExactInitialStateRow.holds Try.pinned (OpenSpec.ofChange fnExactInitialStateWrong)

/-- 'laws.FnExactIsDeadlock': WHATEVER THE INPUT: true; the input reads as it did. -/
def fnExactIsDeadlockSpec : ChangeSpec := { name := "fnExactIsDeadlock", fn := fun _ => fun
  | [d1, d2] => { results := [.lit (.bool true)], args := [d1, d2] }
  | _ => none }
def fnExactIsDeadlockRow : OpenClaim := { program := "ytchlpeflfiecdaa", sum := "6c481898260a4f8dd1c73c315935a2e45836e8458091cd9faa600606e02e40df", func := "loop.example/ltlcheck/laws.FnExactIsDeadlock", spec := "fnExactIsDeadlock", unfollowed := true, recurses := true, loops := true, apart := false }
def FnExactIsDeadlockSaid : Prop := fnExactIsDeadlockRow.holds Try.pinned (OpenSpec.ofChange fnExactIsDeadlockSpec)

/-- ITS FALSE NEIGHBOUR: 'it returns false'. Refute it at one input. -/
def fnExactIsDeadlockWrong : ChangeSpec := { name := "fnExactIsDeadlock", fn := fun _ => fun
  | [d1, d2] => { results := [.lit (.bool false)], args := [d1, d2] }
  | _ => none }
def FnExactIsDeadlockWrongFalsely : Prop := fnExactIsDeadlockRow.holds Try.pinned (OpenSpec.ofChange fnExactIsDeadlockWrong)

/- THE SECOND FORM. 'bulk': how many values and letters a reading holds, each counted each time it is reached (what is shared counts as often as it is met; a slice's spare places count too). A statement '..UptoSaid' is the law's where the arguments, and the package variables that the reading takes, are together of bulk at most 1048576: NARROWER than '..Said'. Prove '..Said' where nothing that the law and all that it calls make is longer than what came in: it says more and counts as full. Else prove '..UptoSaid'. A law counts once. -/
mutual
def uptoBulk {H : Type} : DataW H → Nat
  | .lit (.string bytes) => bytes.length + 1
  | .lit _ => 1
  | .nil => 1
  | .ptr d => uptoBulk d + 1
  | .slice elems spare => uptoBulkAll elems + uptoBulkAll spare + 1
  | .agg parts => uptoBulkAll parts + 1
  | .iface _ d => uptoBulk d + 1
  | .map entries => uptoBulkEntries entries + 1
  | .held _ => 1
def uptoBulkAll {H : Type} : List (DataW H) → Nat
  | [] => 0
  | d :: r => uptoBulk d + uptoBulkAll r
def uptoBulkEntries {H : Type} : List (Lit × DataW H) → Nat
  | [] => 0
  | x :: r => uptoBulkEntry x + uptoBulkEntries r
def uptoBulkEntry {H : Type} : Lit × DataW H → Nat
  | (.string bytes, d) => bytes.length + uptoBulk d + 1
  | (_, d) => uptoBulk d + 1
 end
def uptoSmall : (H : Type) → List (DataW H) → Bool := fun _ ds => decide (uptoBulkAll ds ≤ 1048576)
def OpenSpec.upto (s : _root_.Go.ChangeSpec) : _root_.Go.OpenSpec := { _root_.Go.OpenSpec.ofChange s with cond := some uptoSmall }

/-- 'laws.FnExactEdgeValid', WHERE WHAT IT READS IS OF BULK AT MOST 1048576: true; the input reads as it did. -/
def fnExactEdgeValidUptoRow : OpenClaim := { program := "ytchlpeflfiecdaa", sum := "6c481898260a4f8dd1c73c315935a2e45836e8458091cd9faa600606e02e40df", func := "loop.example/ltlcheck/laws.FnExactEdgeValid", spec := "fnExactEdgeValid", unfollowed := true, recurses := true, loops := true, apart := false, narrowed := true }
def FnExactEdgeValidUptoSaid : Prop := fnExactEdgeValidUptoRow.holds Try.pinned (OpenSpec.upto fnExactEdgeValidSpec)

/-- 'laws.FnExactSystemValid', WHERE WHAT IT READS IS OF BULK AT MOST 1048576: true; the input reads as it did. -/
def fnExactSystemValidUptoRow : OpenClaim := { program := "ytchlpeflfiecdaa", sum := "6c481898260a4f8dd1c73c315935a2e45836e8458091cd9faa600606e02e40df", func := "loop.example/ltlcheck/laws.FnExactSystemValid", spec := "fnExactSystemValid", unfollowed := true, recurses := true, loops := true, apart := false, narrowed := true }
def FnExactSystemValidUptoSaid : Prop := fnExactSystemValidUptoRow.holds Try.pinned (OpenSpec.upto fnExactSystemValidSpec)

/-- 'laws.FnExactSystemReach', WHERE WHAT IT READS IS OF BULK AT MOST 1048576: true; the input reads as it did. -/
def fnExactSystemReachUptoRow : OpenClaim := { program := "ytchlpeflfiecdaa", sum := "6c481898260a4f8dd1c73c315935a2e45836e8458091cd9faa600606e02e40df", func := "loop.example/ltlcheck/laws.FnExactSystemReach", spec := "fnExactSystemReach", unfollowed := true, recurses := true, loops := true, apart := false, narrowed := true }
def FnExactSystemReachUptoSaid : Prop := fnExactSystemReachUptoRow.holds Try.pinned (OpenSpec.upto fnExactSystemReachSpec)

/-- 'laws.FnExactSystemVars', WHERE WHAT IT READS IS OF BULK AT MOST 1048576: true; the input reads as it did. -/
def fnExactSystemVarsUptoRow : OpenClaim := { program := "ytchlpeflfiecdaa", sum := "6c481898260a4f8dd1c73c315935a2e45836e8458091cd9faa600606e02e40df", func := "loop.example/ltlcheck/laws.FnExactSystemVars", spec := "fnExactSystemVars", unfollowed := true, recurses := true, loops := true, apart := false, narrowed := true }
def FnExactSystemVarsUptoSaid : Prop := fnExactSystemVarsUptoRow.holds Try.pinned (OpenSpec.upto fnExactSystemVarsSpec)

/-- 'laws.FnExactEnabledSteps', WHERE WHAT IT READS IS OF BULK AT MOST 1048576: true; the input reads as it did. -/
def fnExactEnabledStepsUptoRow : OpenClaim := { program := "ytchlpeflfiecdaa", sum := "6c481898260a4f8dd1c73c315935a2e45836e8458091cd9faa600606e02e40df", func := "loop.example/ltlcheck/laws.FnExactEnabledSteps", spec := "fnExactEnabledSteps", unfollowed := true, recurses := true, loops := true, apart := false, narrowed := true }
def FnExactEnabledStepsUptoSaid : Prop := fnExactEnabledStepsUptoRow.holds Try.pinned (OpenSpec.upto fnExactEnabledStepsSpec)

/-- 'laws.FnExactStateValid', WHERE WHAT IT READS IS OF BULK AT MOST 1048576: true; the input reads as it did. -/
def fnExactStateValidUptoRow : OpenClaim := { program := "ytchlpeflfiecdaa", sum := "6c481898260a4f8dd1c73c315935a2e45836e8458091cd9faa600606e02e40df", func := "loop.example/ltlcheck/laws.FnExactStateValid", spec := "fnExactStateValid", unfollowed := true, recurses := true, loops := true, apart := false, narrowed := true }
def FnExactStateValidUptoSaid : Prop := fnExactStateValidUptoRow.holds Try.pinned (OpenSpec.upto fnExactStateValidSpec)

/-- 'laws.FnExactStepProcesses', WHERE WHAT IT READS IS OF BULK AT MOST 1048576: true; the input reads as it did. -/
def fnExactStepProcessesUptoRow : OpenClaim := { program := "ytchlpeflfiecdaa", sum := "6c481898260a4f8dd1c73c315935a2e45836e8458091cd9faa600606e02e40df", func := "loop.example/ltlcheck/laws.FnExactStepProcesses", spec := "fnExactStepProcesses", unfollowed := true, recurses := true, loops := true, apart := false, narrowed := true }
def FnExactStepProcessesUptoSaid : Prop := fnExactStepProcessesUptoRow.holds Try.pinned (OpenSpec.upto fnExactStepProcessesSpec)

/-- 'laws.FnExactInitialState', WHERE WHAT IT READS IS OF BULK AT MOST 1048576: true; the input reads as it did. -/
def fnExactInitialStateUptoRow : OpenClaim := { program := "ytchlpeflfiecdaa", sum := "6c481898260a4f8dd1c73c315935a2e45836e8458091cd9faa600606e02e40df", func := "loop.example/ltlcheck/laws.FnExactInitialState", spec := "fnExactInitialState", unfollowed := true, recurses := true, loops := true, apart := false, narrowed := true }
def FnExactInitialStateUptoSaid : Prop := fnExactInitialStateUptoRow.holds Try.pinned (OpenSpec.upto fnExactInitialStateSpec)

/-- 'laws.FnExactIsDeadlock', WHERE WHAT IT READS IS OF BULK AT MOST 1048576: true; the input reads as it did. -/
def fnExactIsDeadlockUptoRow : OpenClaim := { program := "ytchlpeflfiecdaa", sum := "6c481898260a4f8dd1c73c315935a2e45836e8458091cd9faa600606e02e40df", func := "loop.example/ltlcheck/laws.FnExactIsDeadlock", spec := "fnExactIsDeadlock", unfollowed := true, recurses := true, loops := true, apart := false, narrowed := true }
def FnExactIsDeadlockUptoSaid : Prop := fnExactIsDeadlockUptoRow.holds Try.pinned (OpenSpec.upto fnExactIsDeadlockSpec)

end Rows
end Go.Proofs.Ytchlpeflfiecdaa
