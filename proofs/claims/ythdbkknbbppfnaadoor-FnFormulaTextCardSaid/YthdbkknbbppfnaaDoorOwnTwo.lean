/- Nodes of one's own, one or two, put into a row; what a call returns that returns a tree and a bool: for seats that hold no normal forms. Conditions: none. -/
import Derived.Test.YthdbkknbbppfnaaDoorFormulaMk
import Derived.Test.YthdbkknbbppfnaaDoorBox
import Derived.Test.YthdbkknbbppfnaaDoorNormPlain
namespace Go.Proofs.YthdbkknbbppfnaaDoor
open Go.RowKit
namespace Formula
theorem own_node {B k' : Nat} {k : Int} {w : World} {t : Tr} {x y z : Value} {ty : TypeId} (hk : i64 k) (h : NewTr B t (.agg #[x, y, z]) w) (hB : B ≤ w.heap.size) (hb : k' = w.heap.size) : NewTr B (.mk k 0 [t]) (.agg #[.int .i64 k, .int .i64 0, .slice (some ⟨k', 0, none⟩) 1 1]) (w.alloc (.cells #[x, y, z] ty)) := by
  subst hb
  obtain ⟨bs, h1, h2⟩ := h
  obtain ⟨bs', g1, g2⟩ := TrOwn_new (w := w.alloc (.cells #[x, y, z] ty)) (R := w.heap.size) (c := 1) (kids := [t]) (bs := bs) hk (show i64 0 by unfold i64; omega) (by simp) (by simp [maxLen]) (row_three w x y z ty)
    (by rw [TrsOwn_cons]; exact ⟨bs, [], by simp, by simp, by simpa using TrOwn_below (below_alloc _ _) h1, (TrsOwn_nil ..).2 rfl⟩) (fun e => by have := TrOwn_lt.1 _ _ _ h1 _ e; omega)
  exact ⟨bs', g1, fun b hb => by rcases g2 b hb with rfl | h; exact hB; exact h2 b h⟩

def RetT (B : Nat) (t : Tr) (b : Bool) (w : World) (e : Ending) (w' : World) : Prop := ∃ v, e = .returned (.tuple #[v, .bool b]) ∧ NewTr B t v w' ∧ Below w.heap.size w w'
theorem RetT.mk {B : Nat} {t t' : Tr} {b b' : Bool} {v : Value} {w w' : World} (h : NewTr B t' v w') (ht : t = t') (hb : b = b') (hw : Below w.heap.size w w') : RetT B t b w (.returned (.tuple #[v, .bool b'])) w' := ⟨v, by rw [hb], ht ▸ h, hw⟩
def zeroT : Tr := .mk 0 0 []
theorem zero_new (B : Nat) (w : World) : NewTr B zeroT (.agg #[.int .i64 0, .int .i64 0, .slice none 0 0]) w := leaf_new _ _ (by unfold i64; omega) (by unfold i64; omega)
theorem own_one {B : Nat} {w : World} {t : Tr} {x y z : Value} {ty : TypeId} (h : NewTr B t (.agg #[x, y, z]) w) : OwnArg B (w.alloc (.cells #[x, y, z] ty)) [t] (some ⟨w.heap.size, 0, none⟩) := by
  obtain ⟨bs, h1, h2⟩ := h
  exact .inr ⟨w.heap.size, _, bs, rfl, row_three w x y z ty, by rw [TrsOwn_cons]; exact ⟨bs, [], by simp, by simp, by simpa using TrOwn_below (below_alloc _ _) h1, (TrsOwn_nil ..).2 rfl⟩, h2⟩
theorem own_two {B b' : Nat} {w : World} {t u : Tr} {x y z x' y' z' : Value} {ty : TypeId} (h : Two B t u (.agg #[x, y, z]) (.agg #[x', y', z']) w) (hb : b' = w.heap.size) : OwnArg B (w.alloc (.cells #[x, y, z, x', y', z'] ty)) [t, u] (some ⟨b', 0, none⟩) := by
  obtain ⟨f, bs, h1, h2, h3, _⟩ := h.rows (ty := ty) hb
  exact .inr ⟨b', f, bs, rfl, h1, h2, h3⟩
end Formula
end Go.Proofs.YthdbkknbbppfnaaDoor
