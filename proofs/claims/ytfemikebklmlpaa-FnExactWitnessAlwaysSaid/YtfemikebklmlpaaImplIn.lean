/- The program's in. Conditions: none. -/
import Derived.Test.YtfemikebklmlpaaRows
import Derived.Test.YtfemikebklmlpaaMem
import Derived.Test.YtfemikebklmlpaaValidPlain
import Derived.WalkSpells
import Derived.WalkLawsBesides
import Derived.Deep.DeepCutAuto
import Derived.Deep.CutBlock
namespace Go.Proofs.Ytfemikebklmlpaa
open Go.RowKit

/-- is a number in a range -/
def inB (a b c : Int) : Bool := decide (b ≤ a ∧ a ≤ c)
set_option maxHeartbeats 400000 in
theorem in_any (a b c : Int) (w : World) : Calls Try.prog 36 #[.int .i64 a, .int .i64 b, .int .i64 c] w (RetW (.bool (inB a b c)) w) := by
  by_cases h1 : b ≤ a
  · have E := hid (show decide (a ≤ c) = inB a b c by simp [inB, h1])
    go_enter Try.func36, Try.ntmps36
    go_wp2_with fail
    go_ret
    exact ⟨congrArg (fun x => Ending.returned (.bool x)) E.out, rfl⟩
  · have E := hid (show false = inB a b c by simp [inB]; omega)
    go_enter Try.func36, Try.ntmps36
    go_wp2_with fail
    go_ret
    exact ⟨congrArg (fun x => Ending.returned (.bool x)) E.out, rfl⟩
theorem in_yes {a b c : Int} (h : b ≤ a ∧ a ≤ c) (w : World) : Calls Try.prog 36 #[.int .i64 a, .int .i64 b, .int .i64 c] w (RetW (.bool true) w) := by
  have := in_any a b c w
  rwa [inB, decide_eq_true h] at this
theorem in_no {a b c : Int} (h : ¬(b ≤ a ∧ a ≤ c)) (w : World) : Calls Try.prog 36 #[.int .i64 a, .int .i64 b, .int .i64 c] w (RetW (.bool false) w) := by
  have := in_any a b c w
  rwa [inB, decide_eq_false h] at this

theorem upd_past {w W W' : World} {R : Nat} {v : Value} (h : Upd W R v W') (hb : Below w.heap.size w W) (hR : R < w.heap.size) : Upd w R v W' :=
  (Upd.of_below hb hR).trans_below h
theorem Calls.over_same {P : Program} {f : FuncId} {args : Array Value} {w : World} {x : Over w} {v : Value} (h : Calls P f args (w.over x) (RetW v (w.over x))) :
    Calls P f args (w.over x) fun e w'' => e = .returned v ∧ ∃ m, w'' = w.over m :=
  h.mono fun _ _ ⟨he, hy⟩ => ⟨he, x, hy⟩

end Go.Proofs.Ytfemikebklmlpaa
