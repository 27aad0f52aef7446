/-
  No cell of these rows narrows 'for every input' (looked for: loops, veiled, ifaces, maps, wideKeys, modest, calm, conditions, laid).
  DERIVED. THE GIVEN ROWS OF THIS SEAT. 4 by the template 'for every input the law returns true; each argument reads behind the call as it read before'; 0 by the template 'total and deterministic' (their statements: YtfemikebklmlpaaTotals.lean).
  GIVEN WITH THE SEED: the statements are not yours to turn. If you find one false, say at which input.
  Laid BY PROGRAM, IN A SANDBOX (cutbox-rows.mjs): the forced cells as the released guide's own fill.sh prints them over the translation 3fae0f113883958a… (all of the seat's roots in one cut). By AI agents, Wed Nov 11 2026. No macro, syntax, notation, axiom, sorry.
-/
import Derived.Test.YtfemikebklmlpaaChecked
import GoSem.Claim
import GoSem.ClaimJoined
import GoSem.ClaimMapViews
import Derived.JoinedTies
import Derived.KernelRfl
namespace Go.Proofs.Ytfemikebklmlpaa
/- THE CELL 'sum', in the pinned program and in every row, IS THE sha256 OF THE DUMP (.gsa) THAT YtfemikebklmlpaaProg.lean LOADS. Nothing in Lean hashes anything: it is a label: what it is worth is what the hold of that sum in a sandbox is worth. -/
noncomputable def Try.pinned : Pinned := { name := "ytfemikebklmlpaa", sum := "3fae0f113883958a0b6c19af5e66131cdb8aab2558653ddd540dfa6b46b158b2", checked := Try.checked }
namespace Rows
def none {H : Type} : Left H := { results := [], args := [] }

/-- 'laws.FnWitnessUntil': WHATEVER THE INPUT: true; the input reads as it did. -/
def fnWitnessUntilSpec : ChangeSpec := { name := "fnWitnessUntil", fn := fun _ => fun
  | [d] => { results := [.lit (.bool true)], args := [d] }
  | _ => none }
def fnWitnessUntilRow : OpenClaim := { program := "ytfemikebklmlpaa", sum := "3fae0f113883958a0b6c19af5e66131cdb8aab2558653ddd540dfa6b46b158b2", func := "loop.example/ltlcheck/laws.FnWitnessUntil", spec := "fnWitnessUntil", unfollowed := true, recurses := true, apart := false }
def FnWitnessUntilSaid : Prop := fnWitnessUntilRow.holds Try.pinned (OpenSpec.ofChange fnWitnessUntilSpec)

/-- ITS FALSE NEIGHBOUR: 'it returns false'. Refute it at one input. -/
def fnWitnessUntilWrong : ChangeSpec := { name := "fnWitnessUntil", fn := fun _ => fun
  | [d] => { results := [.lit (.bool false)], args := [d] }
  | _ => none }
def FnWitnessUntilWrongFalsely : Prop := fnWitnessUntilRow.holds Try.pinned (OpenSpec.ofChange fnWitnessUntilWrong)

/-- 'laws.FnExactWitnessUntil': WHATEVER THE INPUT: true; the input reads as it did. -/
def fnExactWitnessUntilSpec : ChangeSpec := { name := "fnExactWitnessUntil", fn := fun _ => fun
  | [d1, d2, d3, d4] => { results := [.lit (.bool true)], args := [d1, d2, d3, d4] }
  | _ => none }
def fnExactWitnessUntilRow : OpenClaim := { program := "ytfemikebklmlpaa", sum := "3fae0f113883958a0b6c19af5e66131cdb8aab2558653ddd540dfa6b46b158b2", func := "loop.example/ltlcheck/laws.FnExactWitnessUntil", spec := "fnExactWitnessUntil", unfollowed := true, recurses := true, apart := false }
def FnExactWitnessUntilSaid : Prop := fnExactWitnessUntilRow.holds Try.pinned (OpenSpec.ofChange fnExactWitnessUntilSpec)

/-- ITS FALSE NEIGHBOUR: 'it returns false'. Refute it at one input. -/
def fnExactWitnessUntilWrong : ChangeSpec := { name := "fnExactWitnessUntil", fn := fun _ => fun
  | [d1, d2, d3, d4] => { results := [.lit (.bool false)], args := [d1, d2, d3, d4] }
  | _ => none }
def FnExactWitnessUntilWrongFalsely : Prop := fnExactWitnessUntilRow.holds Try.pinned (OpenSpec.ofChange fnExactWitnessUntilWrong)

/-- 'laws.FnExactWitnessAlways': WHATEVER THE INPUT: true; the input reads as it did. -/
def fnExactWitnessAlwaysSpec : ChangeSpec := { name := "fnExactWitnessAlways", fn := fun _ => fun
  | [d1, d2, d3] => { results := [.lit (.bool true)], args := [d1, d2, d3] }
  | _ => none }
def fnExactWitnessAlwaysRow : OpenClaim := { program := "ytfemikebklmlpaa", sum := "3fae0f113883958a0b6c19af5e66131cdb8aab2558653ddd540dfa6b46b158b2", func := "loop.example/ltlcheck/laws.FnExactWitnessAlways", spec := "fnExactWitnessAlways", unfollowed := true, recurses := true, apart := false }
def FnExactWitnessAlwaysSaid : Prop := fnExactWitnessAlwaysRow.holds Try.pinned (OpenSpec.ofChange fnExactWitnessAlwaysSpec)

/-- ITS FALSE NEIGHBOUR: 'it returns false'. Refute it at one input. -/
def fnExactWitnessAlwaysWrong : ChangeSpec := { name := "fnExactWitnessAlways", fn := fun _ => fun
  | [d1, d2, d3] => { results := [.lit (.bool false)], args := [d1, d2, d3] }
  | _ => none }
def FnExactWitnessAlwaysWrongFalsely : Prop := fnExactWitnessAlwaysRow.holds Try.pinned (OpenSpec.ofChange fnExactWitnessAlwaysWrong)

/-- 'laws.FnWitnessAlways': WHATEVER THE INPUT: true; the input reads as it did. -/
def fnWitnessAlwaysSpec : ChangeSpec := { name := "fnWitnessAlways", fn := fun _ => fun
  | [d] => { results := [.lit (.bool true)], args := [d] }
  | _ => none }
def fnWitnessAlwaysRow : OpenClaim := { program := "ytfemikebklmlpaa", sum := "3fae0f113883958a0b6c19af5e66131cdb8aab2558653ddd540dfa6b46b158b2", func := "loop.example/ltlcheck/laws.FnWitnessAlways", spec := "fnWitnessAlways", unfollowed := true, recurses := true, apart := false }
def FnWitnessAlwaysSaid : Prop := fnWitnessAlwaysRow.holds Try.pinned (OpenSpec.ofChange fnWitnessAlwaysSpec)

/-- ITS FALSE NEIGHBOUR: 'it returns false'. Refute it at one input. -/
def fnWitnessAlwaysWrong : ChangeSpec := { name := "fnWitnessAlways", fn := fun _ => fun
  | [d] => { results := [.lit (.bool false)], args := [d] }
  | _ => none }
def FnWitnessAlwaysWrongFalsely : Prop := fnWitnessAlwaysRow.holds Try.pinned (OpenSpec.ofChange fnWitnessAlwaysWrong)

/- THE SECOND FORM. 'bulk': how many values and letters a reading holds, each counted each time it is reached (what is shared counts as often as it is met; a slice's spare places count too). A statement '..UptoSaid' is the law's where the arguments, and the package variables that the reading takes, are together of bulk at most 1048576: NARROWER than '..Said'. Prove '..Said' where nothing that the law and all that it calls make is longer than what came in: it says more and counts as full. Else prove '..UptoSaid'. A law counts once. -/
mutual
def uptoBulk {H : Type} : DataW H → Nat
  | .lit (.string bytes) => bytes.length + 1
  | .lit _ => 1
  | .nil => 1
  | .ptr d => uptoBulk d + 1
  | .slice elems spare => uptoBulkAll elems + uptoBulkAll spare + 1
  | .agg parts => uptoBulkAll parts + 1
  | .iface _ d => uptoBulk d + 1
  | .map entries => uptoBulkEntries entries + 1
  | .held _ => 1
def uptoBulkAll {H : Type} : List (DataW H) → Nat
  | [] => 0
  | d :: r => uptoBulk d + uptoBulkAll r
def uptoBulkEntries {H : Type} : List (Lit × DataW H) → Nat
  | [] => 0
  | x :: r => uptoBulkEntry x + uptoBulkEntries r
def uptoBulkEntry {H : Type} : Lit × DataW H → Nat
  | (.string bytes, d) => bytes.length + uptoBulk d + 1
  | (_, d) => uptoBulk d + 1
 end
def uptoSmall : (H : Type) → List (DataW H) → Bool := fun _ ds => decide (uptoBulkAll ds ≤ 1048576)
def OpenSpec.upto (s : _root_.Go.ChangeSpec) : _root_.Go.OpenSpec := { _root_.Go.OpenSpec.ofChange s with cond := some uptoSmall }

/-- 'laws.FnWitnessUntil', WHERE WHAT IT READS IS OF BULK AT MOST 1048576: true; the input reads as it did. -/
def fnWitnessUntilUptoRow : OpenClaim := { program := "ytfemikebklmlpaa", sum := "3fae0f113883958a0b6c19af5e66131cdb8aab2558653ddd540dfa6b46b158b2", func := "loop.example/ltlcheck/laws.FnWitnessUntil", spec := "fnWitnessUntil", unfollowed := true, recurses := true, apart := false, narrowed := true }
def FnWitnessUntilUptoSaid : Prop := fnWitnessUntilUptoRow.holds Try.pinned (OpenSpec.upto fnWitnessUntilSpec)

/-- 'laws.FnExactWitnessUntil', WHERE WHAT IT READS IS OF BULK AT MOST 1048576: true; the input reads as it did. -/
def fnExactWitnessUntilUptoRow : OpenClaim := { program := "ytfemikebklmlpaa", sum := "3fae0f113883958a0b6c19af5e66131cdb8aab2558653ddd540dfa6b46b158b2", func := "loop.example/ltlcheck/laws.FnExactWitnessUntil", spec := "fnExactWitnessUntil", unfollowed := true, recurses := true, apart := false, narrowed := true }
def FnExactWitnessUntilUptoSaid : Prop := fnExactWitnessUntilUptoRow.holds Try.pinned (OpenSpec.upto fnExactWitnessUntilSpec)

/-- 'laws.FnExactWitnessAlways', WHERE WHAT IT READS IS OF BULK AT MOST 1048576: true; the input reads as it did. -/
def fnExactWitnessAlwaysUptoRow : OpenClaim := { program := "ytfemikebklmlpaa", sum := "3fae0f113883958a0b6c19af5e66131cdb8aab2558653ddd540dfa6b46b158b2", func := "loop.example/ltlcheck/laws.FnExactWitnessAlways", spec := "fnExactWitnessAlways", unfollowed := true, recurses := true, apart := false, narrowed := true }
def FnExactWitnessAlwaysUptoSaid : Prop := fnExactWitnessAlwaysUptoRow.holds Try.pinned (OpenSpec.upto fnExactWitnessAlwaysSpec)

/-- 'laws.FnWitnessAlways', WHERE WHAT IT READS IS OF BULK AT MOST 1048576: true; the input reads as it did. -/
def fnWitnessAlwaysUptoRow : OpenClaim := { program := "ytfemikebklmlpaa", sum := "3fae0f113883958a0b6c19af5e66131cdb8aab2558653ddd540dfa6b46b158b2", func := "loop.example/ltlcheck/laws.FnWitnessAlways", spec := "fnWitnessAlways", unfollowed := true, recurses := true, apart := false, narrowed := true }
def FnWitnessAlwaysUptoSaid : Prop := fnWitnessAlwaysUptoRow.holds Try.pinned (OpenSpec.upto fnWitnessAlwaysSpec)

end Rows
end Go.Proofs.Ytfemikebklmlpaa
