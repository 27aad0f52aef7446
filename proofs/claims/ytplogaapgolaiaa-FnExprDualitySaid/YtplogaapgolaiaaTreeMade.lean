/- Nodes just made above given nodes. Conditions: none. -/
import Derived.Test.YtplogaapgolaiaaBox
namespace Go.Proofs.Ytplogaapgolaiaa
open Go.RowKit

theorem TrIn_two {w : World} {k : Int} {t u : Tr} {x y z x' y' z' : Value} {ty : TypeId} {b : Nat} (hk : i64 k) (h : TrIn Any w t (.agg #[x, y, z])) (h' : TrIn Any w u (.agg #[x', y', z'])) (hb : b = w.heap.size) :
    TrIn Any (w.alloc (.cells #[x, y, z, x', y', z'] ty)) (.mk k 0 [t, u]) (.agg #[.int .i64 k, .int .i64 0, .slice (some ⟨b, 0, none⟩) 2 2]) := by
  subst hb
  have hr := row_six w x y z x' y' z' ty
  rw [TrIn_mk]
  refine ⟨_, 2, 2, rfl, hk, by unfold i64; omega, rfl, by simp, by simp [maxLen], ?_⟩
  rw [TrsIn_cons]
  refine ⟨_, _, x, y, z, rfl, trivial, hr.2.1 0 (by omega), hr.2.1 1 (by omega), hr.2.1 2 (by omega), TrIn_below (below_alloc _ _) h, ?_⟩
  rw [TrsIn_cons]
  exact ⟨_, _, x', y', z', rfl, trivial, hr.2.1 3 (by omega), hr.2.1 4 (by omega), hr.2.1 5 (by omega), TrIn_below (below_alloc _ _) h', TrsIn_nil _ _ _⟩

theorem TrIn_ofRow {w : World} {k : Int} {l : List Tr} {a : Option Addr} {c : Nat} (hk : i64 k) (h : TrsIn Any w l a) (hc : l.length ≤ c) (hc2 : c ≤ maxLen) : TrIn Any w (.mk k 0 l) (.agg #[.int .i64 k, .int .i64 0, .slice a l.length c]) := by
  rw [TrIn_mk]; exact ⟨a, l.length, c, rfl, hk, by unfold i64; omega, rfl, hc, hc2, h⟩
/-- each of two nodes, as a row of one -/
theorem TrIn_half {w : World} {k : Int} {t u : Tr} {K c : Nat} (hk : i64 k) (h : TrsIn Any w [t, u] (some ⟨K, 0, none⟩)) (hc : 1 ≤ c) (hc2 : c ≤ maxLen) :
    TrIn Any w (.mk k 0 [t]) (.agg #[.int .i64 k, .int .i64 0, .slice (some ⟨K, 0, none⟩) 1 c]) ∧ TrIn Any w (.mk k 0 [u]) (.agg #[.int .i64 k, .int .i64 0, .slice (some ⟨K, 3, none⟩) 1 c]) := by
  rw [TrsIn_cons] at h
  obtain ⟨b, o, c0, c1, c2, hbo, _, g0, g1, g2, hT, h⟩ := h
  simp only [Option.some.injEq, Addr.mk.injEq, and_true] at hbo
  obtain ⟨rfl, rfl⟩ := hbo
  rw [TrIn_mk, TrIn_mk]
  refine ⟨⟨_, 1, c, rfl, hk, by unfold i64; omega, rfl, hc, hc2, ?_⟩, ⟨_, 1, c, rfl, hk, by unfold i64; omega, rfl, hc, hc2, h⟩⟩
  rw [TrsIn_cons]
  exact ⟨_, _, c0, c1, c2, rfl, trivial, g0, g1, g2, hT, TrsIn_nil _ _ _⟩
theorem TrsIn_two {w : World} {t u : Tr} {x y z x' y' z' : Value} {ty : TypeId} {b : Nat} (h : TrIn Any w t (.agg #[x, y, z])) (h' : TrIn Any w u (.agg #[x', y', z'])) (hb : b = w.heap.size) :
    TrsIn Any (w.alloc (.cells #[x, y, z, x', y', z'] ty)) [t, u] (some ⟨b, 0, none⟩) := by
  have := TrIn_two (k := 0) (ty := ty) (by unfold i64; omega) h h' hb
  rw [TrIn_mk] at this
  obtain ⟨a, n, c, he, _, _, _, _, _, hk⟩ := this
  simp at he
  rw [he.1]; exact hk

end Go.Proofs.Ytplogaapgolaiaa
