/- EvalExpr, of the program and of the reference: what they return, for every expression and all numbers. Conditions: those of each contract. -/
import Derived.Test.YtffadknollkgiaazEvalSpec
import Derived.Test.YtffadknollkgiaazEvalImpl
import Derived.Test.YtffadknollkgiaaJS5
import Derived.Test.YtffadknollkgiaaJS6
import Derived.Test.YtffadknollkgiaaJS11
set_option linter.unusedVariables false
set_option linter.unusedSimpArgs false
namespace Go.Proofs.Ytffadknollkgiaa
open Go.RowKit
namespace Expr

/-- the value and whether there is one -/
def evalOk (t : Tr) (l : List Int) : Bool := exprL.valid t && okVals l
def evalV (t : Tr) (l : List Int) : Int := if evalOk t l = true then evalT (gOf l) t else 0
def Ret2 (u v : Value) (w : World) (e : Ending) (w' : World) : Prop := e = .returned (.tuple #[u, v]) ∧ Below w.heap.size w w'
theorem Ret2.mk {u v u' v' : Value} {w w' : World} (h : u = u') (k : v = v') (hb : Below w.heap.size w w') : Ret2 u' v' w (.returned (.tuple #[u, v])) w' := ⟨by rw [h, k], hb⟩
theorem valid_shape {t : Tr} (h : exprL.valid t = true) : exprL.shape t (6 : Nat) = true := by
  rw [Lang.valid, Bool.and_eq_true] at h; exact h.1

set_option maxHeartbeats 1000000 in
theorem eval_any (t : Tr) (l : List Int) (w : World) (x : Value) (a : Option Addr) (c : Nat) (hx : TrIn Any w t x) (hl : IntsIn Any w a l) (hc : l.length ≤ c) (hc2 : c ≤ maxLen) :
    Calls Try.prog 64 #[x, .slice a l.length c] w (Ret2 (.int .i64 (evalV t l)) (.bool (evalOk t l)) w) := by
  have hx0 := hx
  obtain ⟨a', c', rfl⟩ := TrIn_shape hx
  have HT := hid (fun w hx => valid_any t w (.agg #[.int .i64 t.kind, .int .i64 t.val, .slice a' t.kids.length c']) hx)
  cases hv : exprL.valid t with
  | false =>
    have E := hid (show evalV t l = 0 ∧ evalOk t l = false by simp [evalV, evalOk, hv])
    rw [hv] at HT
    clear hv
    go_enter Try.func64, Try.ntmps64
    go_wp2_with fail
    refine (HT.out _ (TrIn_alloc hx _)).mono ?_
    rintro e w1 ⟨rfl, hb⟩
    go_wp2_with fail
    go_ret2
    exact Ret2.mk (by rw [E.out.1]; rfl) (by rw [E.out.2]; rfl) (below_next (below_alloc _ _) hb)
  | true =>
    cases ho : okVals l with
    | false =>
      have E := hid (show evalV t l = 0 ∧ evalOk t l = false by simp [evalV, evalOk, ho])
      have HO := hid (fun w hl => vals_any l w a c hl hc hc2)
      rw [hv] at HT
      rw [ho] at HO
      clear hv ho
      go_enter Try.func64, Try.ntmps64
      go_wp2_with fail
      refine (HT.out _ (TrIn_alloc hx _)).mono ?_
      rintro e w1 ⟨rfl, hb⟩
      have B := below_next (below_alloc _ _) hb
      clear hb
      go_wp2_with fail
      refine (HO.out _ (hl.below B)).mono ?_
      rintro e w2 ⟨rfl, hb⟩
      go_wp2_with fail
      go_ret2
      exact Ret2.mk (by rw [E.out.1]; rfl) (by rw [E.out.2]; rfl) (below_next B hb)
    | true =>
      have E := hid (show evalV t l = evalT (gOf l) t ∧ evalOk t l = true by simp [evalV, evalOk, ho, hv])
      have HO := hid (fun w hl => vals_any l w a c hl hc hc2)
      have hV := okVals_vals ho hl
      have HV := hid (valid_shape hv)
      rw [hv] at HT
      rw [ho] at HO
      clear hv ho
      have h3 : l.length = 3 := hV.2.1
      rw [h3] at HO ⊢
      rw [h3] at hc
      have HE := hid (fun w (hx : TrIn Any w t (.agg #[.int .i64 t.kind, .int .i64 t.val, .slice a' t.kids.length c'])) (hv : Vals w a l) => ev_any t 6 w _ a l c HV.out hx hv hc hc2)
      clear h3
      go_enter Try.func64, Try.ntmps64
      go_wp2_with fail
      refine (HT.out _ (TrIn_alloc hx _)).mono ?_
      rintro e w1 ⟨rfl, hb⟩
      have b1 := box3_next hb (box3_new ..)
      have B := below_next (below_alloc _ _) hb
      clear hb
      go_wp2_with fail
      refine (HO.out _ (hl.below B)).mono ?_
      rintro e w2 ⟨rfl, hb⟩
      replace b1 := box3_next hb b1
      replace B := below_next B hb
      clear hb
      go_wp2_with fail
      refine (HE.out _ (TrIn_below B hx) (hV.below B)).mono ?_
      rintro e w3 ⟨rfl, hb⟩
      replace B := below_next B hb
      clear hb
      go_wp2_with fail
      go_ret2
      exact Ret2.mk (by rw [E.out.1]; rfl) (by rw [E.out.2]; rfl) B

end Expr
end Go.Proofs.Ytffadknollkgiaa
