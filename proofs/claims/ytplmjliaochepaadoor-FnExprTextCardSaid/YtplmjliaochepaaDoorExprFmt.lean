/- FormatExpr, of the program (where its table of signs lies as it was laid) and of the reference: what it returns, for every tree. -/
import Derived.Test.YtplmjliaochepaaDoorExprTxt
import Derived.Test.YtplmjliaochepaaDoorExprTxtI
import Derived.Test.YtplmjliaochepaaDoorExprSpecVB
import Derived.Test.YtplmjliaochepaaDoorExprImplN
namespace Go.Proofs.YtplmjliaochepaaDoor
open Go.RowKit
namespace Expr

/-- the text of a valid tree; none of others -/
def fmt (t : Tr) : List UInt8 := if exprL.valid t = true then exprT.txt t else []
theorem valid_parts {t : Tr} (h : exprL.valid t = true) : exprL.shape t (6 : Nat) = true ∧ nodes t ≤ 15 := by
  rw [Lang.valid, Bool.and_eq_true, decide_eq_true_eq, exprL_N] at h
  exact h

set_option maxHeartbeats 400000 in
theorem specFmt_any (t : Tr) (w : World) (x : Value) (hx : TrIn Any w t x) : Calls Tryd.prog 7 #[x] w (Ret (.string (bs (fmt t))) w) := by
  have hx0 := hx
  obtain ⟨a, c, rfl⟩ := TrIn_shape hx
  cases hv : exprL.valid t with
  | false =>
    have E := hid (show fmt t = [] by simp [fmt, hv])
    go_enter Tryd.func7, Tryd.ntmps7
    go_wp2_with fail
    refine (specValid_any t _ _ (TrIn_alloc hx _)).mono ?_
    rintro e w1 ⟨rfl, hb⟩
    rw [hv]
    clear hv
    go_wp2_with fail
    go_ret
    exact Ret.mk (str_val (by rw [E.out]; rfl)) (below_next (below_alloc _ _) hb)
  | true =>
    have E := hid (show fmt t = exprT.txt t by simp [fmt, hv])
    have HV := hid (valid_parts hv)
    go_enter Tryd.func7, Tryd.ntmps7
    go_wp2_with fail
    refine (specValid_any t _ _ (TrIn_alloc hx _)).mono ?_
    rintro e w1 ⟨rfl, hb⟩
    rw [hv]
    clear hv
    have b1 := box3_next hb (box3_new ..)
    have B := below_next (below_alloc _ _) hb
    clear hb
    go_wp2_with fail
    refine (fm_any t 6 _ _ HV.out.1 HV.out.2 (TrIn_below B hx)).mono ?_
    rintro e w2 ⟨rfl, hb⟩
    replace B := below_next B hb
    clear hb
    go_wp2_with fail
    go_ret
    exact Ret.mk (str_val (by rw [E.out])) B

set_option maxHeartbeats 400000 in
theorem fmt_any (t : Tr) (w : World) (x : Value) (hx : TrIn Any w t x) (hg : Sg w) : Calls Tryd.prog 5 #[x] w (Ret (.string (bs (fmt t))) w) := by
  have hx0 := hx
  have HG := hid hg
  clear hg
  obtain ⟨a, c, rfl⟩ := TrIn_shape hx
  cases hv : exprL.valid t with
  | false =>
    have E := hid (show fmt t = [] by simp [fmt, hv])
    go_enter Tryd.func5, Tryd.ntmps5
    go_wp2_with fail
    refine (valid_any t _ _ (TrIn_alloc hx _)).mono ?_
    rintro e w1 ⟨rfl, hb⟩
    rw [hv]
    clear hv
    go_wp2_with fail
    go_ret
    exact Ret.mk (str_val (by rw [E.out]; rfl)) (below_next (below_alloc _ _) hb)
  | true =>
    have E := hid (show fmt t = exprT.txt t by simp [fmt, hv])
    have HV := hid (valid_parts hv)
    go_enter Tryd.func5, Tryd.ntmps5
    go_wp2_with fail
    refine (valid_any t _ _ (TrIn_alloc hx _)).mono ?_
    rintro e w1 ⟨rfl, hb⟩
    rw [hv]
    clear hv
    have b1 := box3_next hb (box3_new ..)
    have B := below_next (below_alloc _ _) hb
    clear hb
    go_wp2_with fail
    refine (tx_any t 6 _ _ HV.out.1 HV.out.2 (TrIn_below B hx) (Sg_below B HG.out)).mono ?_
    rintro e w2 ⟨rfl, hb⟩
    replace B := below_next B hb
    clear hb
    go_wp2_with fail
    go_ret
    exact Ret.mk (str_val (by rw [E.out])) B

end Expr
end Go.Proofs.YtplmjliaochepaaDoor
