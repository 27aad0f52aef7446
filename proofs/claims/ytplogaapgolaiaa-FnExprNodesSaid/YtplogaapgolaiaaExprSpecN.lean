/- The reference's ExprNodes: what it returns, for every tree. Conditions: none. -/
import Derived.Test.YtplogaapgolaiaaExprSpecVB
namespace Go.Proofs.Ytplogaapgolaiaa
open Go.RowKit
namespace Expr

set_option maxHeartbeats 400000 in
theorem specNodes_any (t : Tr) (w : World) (x : Value) (hx : TrIn Any w t x) : Calls Try.prog 11 #[x] w (Ret (.int .i64 (exprL.size t)) w) := by
  have hx0 := hx
  obtain ⟨a, c, rfl⟩ := TrIn_shape hx
  cases hs : exprL.valid t with
  | false =>
    have E := hid (show exprL.size t = 0 by rw [Lang.size, hs]; rfl)
    go_enter Try.func11, Try.ntmps11
    go_wp2_with fail
    refine (specValid_any t _ _ (TrIn_alloc hx _)).mono ?_
    rintro e w2 ⟨rfl, hb⟩
    rw [hs]
    clear hs
    go_wp2_with fail
    go_ret
    exact Ret.mk (int_val E.out.symm) (below_next (below_alloc _ _) hb)
  | true =>
    have hv := hs
    rw [Lang.valid, Bool.and_eq_true, decide_eq_true_eq] at hv
    have hn : nodes t ≤ 1000 := by have := Lang.nodes_cap exprL exprL_two t 6 hv.1; rw [Lang.cap6] at this; omega
    have E := hid (show exprL.size t = cnt t 6 by rw [Lang.size, hs, if_pos rfl, Lang.cnt_shape exprL t 6 hv.1])
    go_enter Try.func11, Try.ntmps11
    go_wp2_with fail
    refine (specValid_any t _ _ (TrIn_alloc hx _)).mono ?_
    rintro e w2 ⟨rfl, hb⟩
    have b1 := box3_next hb (box3_new ..)
    have B := below_next (below_alloc ..) hb
    clear hb hv
    rw [hs]
    clear hs
    go_wp2_with fail
    refine (cnt_any t _ _ 6 (TrIn_below B hx) (by omega) (by omega) hn).mono ?_
    rintro e w3 ⟨rfl, hb⟩
    go_wp2_with fail
    go_ret
    exact Ret.mk (int_val E.out.symm) (below_next B hb)

end Expr
end Go.Proofs.Ytplogaapgolaiaa
