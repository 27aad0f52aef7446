/- What the readers of expressions need beside. Conditions: none. -/
import Derived.Test.YtplmjliaochepaaDoorRows
import Derived.Test.YtplmjliaochepaaDoorBox
import Derived.Test.YtplmjliaochepaaDoorTrPlain
import Derived.Test.YtplmjliaochepaaDoorNormPlain
namespace Go.Proofs.YtplmjliaochepaaDoor
open Go.RowKit

theorem own_node {B k' : Nat} {k : Int} {w : World} {t : Tr} {x y z : Value} {ty : TypeId} (hk : i64 k) (h : NewTr B t (.agg #[x, y, z]) w) (hB : B ≤ w.heap.size) (hb : k' = w.heap.size) : NewTr B (.mk k 0 [t]) (.agg #[.int .i64 k, .int .i64 0, .slice (some ⟨k', 0, none⟩) 1 1]) (w.alloc (.cells #[x, y, z] ty)) := by
  subst hb
  obtain ⟨bs, h1, h2⟩ := h
  obtain ⟨bs', g1, g2⟩ := TrOwn_new (w := w.alloc (.cells #[x, y, z] ty)) (R := w.heap.size) (c := 1) (kids := [t]) (bs := bs) hk (show i64 0 by unfold i64; omega) (by simp) (by simp [maxLen]) (row_three w x y z ty)
    (by rw [TrsOwn_cons]; exact ⟨bs, [], by simp, by simp, by simpa using TrOwn_below (below_alloc _ _) h1, (TrsOwn_nil ..).2 rfl⟩) (fun e => by have := TrOwn_lt.1 _ _ _ h1 _ e; omega)
  exact ⟨bs', g1, fun b hb => by rcases g2 b hb with rfl | h; exact hB; exact h2 b h⟩

namespace Expr
def RetTP (B : Nat) (t : Tr) (b : Bool) (w : World) (e : Ending) (w' : World) : Prop := ∃ v, e = .returned (.tuple #[v, .bool b]) ∧ NewTr B t v w' ∧ Below w.heap.size w w'
theorem RetTP.mk {B : Nat} {t t' : Tr} {b b' : Bool} {v : Value} {w w' : World} (h : NewTr B t' v w') (ht : t = t') (hb : b = b') (hw : Below w.heap.size w w') : RetTP B t b w (.returned (.tuple #[v, .bool b'])) w' := ⟨v, by rw [hb], ht ▸ h, hw⟩
def zeroP : Tr := .mk 0 0 []
theorem zeroP_new (B : Nat) (w : World) : NewTr B zeroP (.agg #[.int .i64 0, .int .i64 0, .slice none 0 0]) w := leaf_new _ _ (by unfold i64; omega) (by unfold i64; omega)
end Expr
theorem two_below {B : Nat} {t u : Tr} {x y : Value} {w w' : World} (h : Two B t u x y w) (hb : Below w.heap.size w w') : Two B t u x y w' := by
  obtain ⟨b1, b2, h1, h2, h3, h4, h5⟩ := h
  exact ⟨b1, b2, TrOwn_below hb h1, TrOwn_below hb h2, h3, h4, h5⟩
theorem two_but {B N : Nat} {t u : Tr} {x y : Value} {w1 w2 : World} {R : Nat} (h1 : NewTr B t x w1) (h2 : NewTr N u y w2) (hN : w1.heap.size ≤ N) (hb : But w1 R w2) (hR : R < B) (hB : B ≤ N) : Two B t u x y w2 := by
  obtain ⟨b1, o1, g1⟩ := h1
  obtain ⟨b2, o2, g2⟩ := h2
  exact ⟨b1, b2, TrOwn_but hb (fun e => by have := g1 _ e; omega) o1, o2, fun b hb1 hb2 => by have := TrOwn_lt.1 _ _ _ o1 b hb1; have := g2 b hb2; omega, g1, fun b hb => by have := g2 b hb; omega⟩
theorem u8_three {c a : UInt8} (ha : a.toNat ≤ 250) (h : a ≤ c ∧ c ≤ a + 2) : c = a ∨ c = a + 1 ∨ c = a + 2 := by
  obtain ⟨h1, h2⟩ := h
  rw [UInt8.le_iff_toNat_le] at h1 h2
  have e1 : (a + 1).toNat = a.toNat + 1 := by rw [UInt8.toNat_add]; simp; omega
  have e2 : (a + 2).toNat = a.toNat + 2 := by rw [UInt8.toNat_add]; simp; omega
  rw [e2] at h2
  have h3 : c.toNat = a.toNat ∨ c.toNat = a.toNat + 1 ∨ c.toNat = a.toNat + 2 := by omega
  rcases h3 with h | h | h
  · exact .inl (UInt8.toNat_inj.1 h)
  · exact .inr (.inl (UInt8.toNat_inj.1 (h.trans e1.symm)))
  · exact .inr (.inr (UInt8.toNat_inj.1 (h.trans e2.symm)))
end Go.Proofs.YtplmjliaochepaaDoor
