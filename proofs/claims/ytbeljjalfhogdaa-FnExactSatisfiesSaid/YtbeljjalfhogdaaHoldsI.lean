/- The closures of the program's truths: each asks the rows of the operands. Conditions: those of each contract. -/
import Derived.Test.YtbeljjalfhogdaaNextI
import Derived.Test.YtbeljjalfhogdaaCellsOwn
namespace Go.Proofs.Ytbeljjalfhogdaa
open Go.RowKit
namespace Lasso

/-- a row of n truth values -/
def BRow (w : World) (R n : Nat) (f : Nat → Bool) : Prop := Row w R n (fun i => .bool (f i))
/-- the operands' rows, in a variable K: one -/
def Kid1 (w : World) (K n : Nat) (a : Nat → Bool) : Prop := ∃ g c ra, K < w.heap.size ∧ g < w.heap.size ∧ 1 ≤ c ∧ w.cell? ⟨K, 0, none⟩ = some (.slice (some ⟨g, 0, none⟩) 1 c) ∧ w.cell? ⟨g, 0, none⟩ = some (.slice (some ⟨ra, 0, none⟩) n n) ∧ BRow w ra n a
/-- two -/
def Kid2 (w : World) (K n : Nat) (a b : Nat → Bool) : Prop := ∃ g c ra rb, K < w.heap.size ∧ g < w.heap.size ∧ 2 ≤ c ∧ w.cell? ⟨K, 0, none⟩ = some (.slice (some ⟨g, 0, none⟩) 2 c) ∧ w.cell? ⟨g, 0, none⟩ = some (.slice (some ⟨ra, 0, none⟩) n n) ∧ w.cell? ⟨g, 1, none⟩ = some (.slice (some ⟨rb, 0, none⟩) n n) ∧ BRow w ra n a ∧ BRow w rb n b

set_option maxHeartbeats 1000000 in
theorem untC_any (n K i : Nat) (x : Bool) (a b : Nat → Bool) (w : World) (h : Kid2 w K n a b) (hi : i < n) (_ : n ≤ 1000) : Calls Try.prog 64 #[.int .i64 i, .bool x, .pointer (some ⟨K, 0, none⟩)] w (Ret (.bool (b i || a i && x)) w) := by
  obtain ⟨g, c, ra, rb, k1, k2, k3, c0, c1, c2, r1, r2⟩ := h
  have a1 : w.cell? ⟨ra, i, none⟩ = some (.bool (a i)) := r1.2.1 i hi
  have b1 : w.cell? ⟨rb, i, none⟩ = some (.bool (b i)) := r2.2.1 i hi
  have ra1 := r1.1
  have rb1 := r2.1
  have hi2 : (i : Int) < (n : Int) := by omega
  clear r1 r2
  generalize a i = p at *
  generalize b i = q at *
  go_enter Try.func64, Try.ntmps64
  go_wp2_with fail
  all_goals
    go_ret
    exact Ret.mk (bool_val (by cases p <;> cases q <;> cases x <;> first | rfl | contradiction)) (Below.refl _ _)
set_option maxHeartbeats 1000000 in
theorem rlsC_any (n K i : Nat) (x : Bool) (a b : Nat → Bool) (w : World) (h : Kid2 w K n a b) (hi : i < n) (_ : n ≤ 1000) : Calls Try.prog 65 #[.int .i64 i, .bool x, .pointer (some ⟨K, 0, none⟩)] w (Ret (.bool (b i && (a i || x))) w) := by
  obtain ⟨g, c, ra, rb, k1, k2, k3, c0, c1, c2, r1, r2⟩ := h
  have a1 : w.cell? ⟨ra, i, none⟩ = some (.bool (a i)) := r1.2.1 i hi
  have b1 : w.cell? ⟨rb, i, none⟩ = some (.bool (b i)) := r2.2.1 i hi
  have ra1 := r1.1
  have rb1 := r2.1
  have hi2 : (i : Int) < (n : Int) := by omega
  clear r1 r2
  generalize a i = p at *
  generalize b i = q at *
  go_enter Try.func65, Try.ntmps65
  go_wp2_with fail
  all_goals
    go_ret
    exact Ret.mk (bool_val (by cases p <;> cases q <;> cases x <;> first | rfl | contradiction)) (Below.refl _ _)
set_option maxHeartbeats 1000000 in
theorem evC_any (n K i : Nat) (x : Bool) (a : Nat → Bool) (w : World) (h : Kid1 w K n a) (hi : i < n) (_ : n ≤ 1000) : Calls Try.prog 66 #[.int .i64 i, .bool x, .pointer (some ⟨K, 0, none⟩)] w (Ret (.bool (a i || x)) w) := by
  obtain ⟨g, c, ra, k1, k2, k3, c0, c1, r1⟩ := h
  have a1 : w.cell? ⟨ra, i, none⟩ = some (.bool (a i)) := r1.2.1 i hi
  have ra1 := r1.1
  have hi2 : (i : Int) < (n : Int) := by omega
  clear r1
  generalize a i = p at *
  go_enter Try.func66, Try.ntmps66
  go_wp2_with fail
  all_goals
    go_ret
    exact Ret.mk (bool_val (by cases p <;> cases x <;> first | rfl | contradiction)) (Below.refl _ _)
set_option maxHeartbeats 1000000 in
theorem alC_any (n K i : Nat) (x : Bool) (a : Nat → Bool) (w : World) (h : Kid1 w K n a) (hi : i < n) (_ : n ≤ 1000) : Calls Try.prog 67 #[.int .i64 i, .bool x, .pointer (some ⟨K, 0, none⟩)] w (Ret (.bool (a i && x)) w) := by
  obtain ⟨g, c, ra, k1, k2, k3, c0, c1, r1⟩ := h
  have a1 : w.cell? ⟨ra, i, none⟩ = some (.bool (a i)) := r1.2.1 i hi
  have ra1 := r1.1
  have hi2 : (i : Int) < (n : Int) := by omega
  clear r1
  generalize a i = p at *
  go_enter Try.func67, Try.ntmps67
  go_wp2_with fail
  all_goals
    go_ret
    exact Ret.mk (bool_val (by cases p <;> cases x <;> first | rfl | contradiction)) (Below.refl _ _)
end Lasso
end Go.Proofs.Ytbeljjalfhogdaa
