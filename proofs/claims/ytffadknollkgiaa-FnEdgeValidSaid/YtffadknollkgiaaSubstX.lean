/- SubstExpr, of the program and of the reference: what it returns, for all expressions and numbers. Conditions: those of each contract. -/
import Derived.Test.YtffadknollkgiaaSubstS
import Derived.Test.YtffadknollkgiaaExprSpecVB
import Derived.Test.YtffadknollkgiaaExprImplN
namespace Go.Proofs.Ytffadknollkgiaa
open Go.RowKit
namespace Expr

/-- a tree of one's own, and whether there is one -/
def RetT (B : Nat) (t : Tr) (b : Bool) (w : World) (e : Ending) (w' : World) : Prop := ∃ v, e = .returned (.tuple #[v, .bool b]) ∧ NewTr B t v w' ∧ Below w.heap.size w w'
theorem RetT.mk {B : Nat} {t t' : Tr} {b b' : Bool} {v : Value} {w w' : World} (h : NewTr B t' v w') (ht : t = t') (hb : b = b') (hw : Below w.heap.size w w') : RetT B t b w (.returned (.tuple #[v, .bool b'])) w' := ⟨v, by rw [hb], ht ▸ h, hw⟩
def zeroT : Tr := .mk 0 0 []
theorem zero_new (B : Nat) (w : World) : NewTr B zeroT (.agg #[.int .i64 0, .int .i64 0, .slice none 0 0]) w := leaf_new _ _ (by unfold i64; omega) (by unfold i64; omega)

def subOk (x : Int) (t y : Tr) : Bool := exprL.valid t && (exprL.valid y && (inB x 0 2 && exprL.valid (subT x y t)))
def subV (x : Int) (t y : Tr) : Tr := if subOk x t y = true then subT x y t else zeroT
theorem subV_small (x : Int) (t y : Tr) : nodes (subV x t y) ≤ 1000 := by
  unfold subV
  split
  · rename_i h
    simp only [subOk, Bool.and_eq_true] at h
    have := h.2.2.2
    rw [Lang.valid, Bool.and_eq_true, decide_eq_true_eq, exprL_N] at this
    omega
  · simp [zeroT, nodes, nodesL]

end Expr
end Go.Proofs.Ytffadknollkgiaa
