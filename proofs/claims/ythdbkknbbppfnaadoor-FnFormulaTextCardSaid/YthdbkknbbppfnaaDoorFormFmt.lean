/- FormatFormula, of the program (where its table of signs lies as it was laid) and of the reference: what it returns, for every tree. -/
import Derived.Test.YthdbkknbbppfnaaDoorFormTxt
import Derived.Test.YthdbkknbbppfnaaDoorFormTxtI
import Derived.Test.YthdbkknbbppfnaaDoorFormulaSpecVB
import Derived.Test.YthdbkknbbppfnaaDoorFormulaImplN
namespace Go.Proofs.YthdbkknbbppfnaaDoor
open Go.RowKit
namespace Formula

/-- the text of a valid tree; none of others -/
def fmt (t : Tr) : List UInt8 := if formL.valid t = true then formT.txt t else []
theorem valid_parts {t : Tr} (h : formL.valid t = true) : formL.shape t (6 : Nat) = true ∧ nodes t ≤ 12 := by
  rw [Lang.valid, Bool.and_eq_true, decide_eq_true_eq, formL_N] at h
  exact h

set_option maxHeartbeats 400000 in
theorem specFmt_any (t : Tr) (w : World) (x : Value) (hx : TrIn Any w t x) : Calls Tryd.prog 7 #[x] w (Ret (.string (bs (fmt t))) w) := by
  have hx0 := hx
  obtain ⟨a, c, rfl⟩ := TrIn_shape hx
  cases hv : formL.valid t with
  | false =>
    have E := hid (show fmt t = [] by simp [fmt, hv])
    go_enter Tryd.func7, Tryd.ntmps7
    go_wp2_with fail
    refine (specValid_any t _ _ (TrIn_alloc hx _)).mono ?_
    rintro e w1 ⟨rfl, hb⟩
    rw [hv]
    clear hv
    go_wp2_with fail
    go_ret
    exact Ret.mk (str_val (by rw [E.out]; rfl)) (below_next (below_alloc _ _) hb)
  | true =>
    have E := hid (show fmt t = formT.txt t by simp [fmt, hv])
    have HV := hid (valid_parts hv)
    go_enter Tryd.func7, Tryd.ntmps7
    go_wp2_with fail
    refine (specValid_any t _ _ (TrIn_alloc hx _)).mono ?_
    rintro e w1 ⟨rfl, hb⟩
    rw [hv]
    clear hv
    have b1 := box3_next hb (box3_new ..)
    have B := below_next (below_alloc _ _) hb
    clear hb
    go_wp2_with fail
    refine (fm_any t 6 _ _ HV.out.1 HV.out.2 (TrIn_below B hx)).mono ?_
    rintro e w2 ⟨rfl, hb⟩
    replace B := below_next B hb
    clear hb
    go_wp2_with fail
    go_ret
    exact Ret.mk (str_val (by rw [E.out])) B

set_option maxHeartbeats 400000 in
theorem fmt_any (t : Tr) (w : World) (x : Value) (hx : TrIn Any w t x) (hg : Sg w) : Calls Tryd.prog 5 #[x] w (Ret (.string (bs (fmt t))) w) := by
  have hx0 := hx
  have HG := hid hg
  clear hg
  obtain ⟨a, c, rfl⟩ := TrIn_shape hx
  cases hv : formL.valid t with
  | false =>
    have E := hid (show fmt t = [] by simp [fmt, hv])
    go_enter Tryd.func5, Tryd.ntmps5
    go_wp2_with fail
    refine (valid_any t _ _ (TrIn_alloc hx _)).mono ?_
    rintro e w1 ⟨rfl, hb⟩
    rw [hv]
    clear hv
    go_wp2_with fail
    go_ret
    exact Ret.mk (str_val (by rw [E.out]; rfl)) (below_next (below_alloc _ _) hb)
  | true =>
    have E := hid (show fmt t = formT.txt t by simp [fmt, hv])
    have HV := hid (valid_parts hv)
    go_enter Tryd.func5, Tryd.ntmps5
    go_wp2_with fail
    refine (valid_any t _ _ (TrIn_alloc hx _)).mono ?_
    rintro e w1 ⟨rfl, hb⟩
    rw [hv]
    clear hv
    have b1 := box3_next hb (box3_new ..)
    have B := below_next (below_alloc _ _) hb
    clear hb
    go_wp2_with fail
    refine (tx_any t 6 _ _ HV.out.1 HV.out.2 (TrIn_below B hx) (Sg_below B HG.out)).mono ?_
    rintro e w2 ⟨rfl, hb⟩
    replace B := below_next B hb
    clear hb
    go_wp2_with fail
    go_ret
    exact Ret.mk (str_val (by rw [E.out])) B

end Formula
end Go.Proofs.YthdbkknbbppfnaaDoor
