/- The laws' wpOccurs: whether a variable occurs in a valid expression. Conditions: those of each contract. -/
import Derived.Test.YtffadknollkgiaazVarsX
import Derived.Test.YtffadknollkgiaaJS2
set_option linter.unusedVariables false
set_option linter.unusedSimpArgs false
namespace Go.Proofs.Ytffadknollkgiaa
open Go.RowKit
set_option linter.unusedVariables false
set_option linter.unusedSimpArgs false

set_option maxRecDepth 100000 in
set_option maxHeartbeats 1000000 in
theorem wpOcc_any (t : Tr) (v : Nat) (w : World) (x : Value) (hx : TrIn Any w t x) (hv : exprL.valid t = true) (h3 : v < 3) : Calls Try.prog 23 #[x, .int .i64 v] w (Ret (.bool (occT v t)) w) := by
  obtain ⟨a, c, rfl⟩ := TrIn_shape hx
  have HX := hid hx
  have hl : (Expr.varsB t).length = 3 := by rw [Expr.varsB, if_pos hv]; rfl
  have hg : ∀ h : v < (Expr.varsB t).length, (Expr.varsB t)[v] = occT v t := fun h => by
    have e : Expr.varsB t = [occT 0 t, occT 1 t, occT 2 t] := by rw [Expr.varsB, if_pos hv]
    rcases (by omega : v = 0 ∨ v = 1 ∨ v = 2) with rfl | rfl | rfl <;> simp [e]
  have HG := hid hg
  have HL := hid hl
  clear hx hv hg hl
  go_enter Try.func23, Try.ntmps23
  go_wp2_with fail
  refine (Expr.vars_any t _ _ (TrIn_below (below_alloc _ _) HX.out)).mono ?_
  rintro e w1 ⟨vv, rfl, ⟨a1, c1, bs, rfl, h1, h2, h4, h5⟩, hb⟩
  have hk : v < (Expr.varsB t).length := by rw [HL.out]; exact h3
  have B := hid (below_next (below_alloc _ _) hb)
  have hO : BoolsIn Any w1 a1 (Expr.varsB t) := h4.any
  obtain ⟨b, o, rfl, _, _, g1⟩ := bools_at hO (Below.refl _ _) hk
  rw [HG.out hk] at g1
  rw [List.length_map, HL.out] at h1 ⊢
  have hv3 : (v : Int) < 3 := by omega
  clear hb h4 h5 hO hk
  generalize occT v t = r at *
  go_wp2_with fail
  go_ret
  exact Ret.mk rfl B.out
end Go.Proofs.Ytffadknollkgiaa
