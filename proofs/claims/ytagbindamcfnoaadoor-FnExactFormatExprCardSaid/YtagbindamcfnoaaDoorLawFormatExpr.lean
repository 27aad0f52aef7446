/- FnExactFormatExpr returns true for every tree, where the program's table of signs lies as it was laid. -/
import Derived.Test.YtagbindamcfnoaaDoorExprA
import Derived.Test.YtagbindamcfnoaaDoorExprFmt
import Derived.Test.YtagbindamcfnoaaDoorExprFmt
import Derived.Deep.RegionHeld3
namespace Go.Proofs.YtagbindamcfnoaaDoor
open Go.RowKit

set_option maxHeartbeats 400000 in
theorem walk_FnExactFormatExpr (t : Tr) (w : World) (x : Value) (hx : TrIn Any w t x) (hg : Expr.Sg w) : Calls Tryd.prog 3 #[x] w (Ret (.bool true) w) := by
  have hx0 := hx
  have HG := hid hg
  clear hg
  obtain ⟨a, c, rfl⟩ := TrIn_shape hx
  have hbd := szT_bd t 1048576 (by omega) (by omega)
  by_cases hs : szT t 1048576 < 0
  · go_enter Tryd.func3, Tryd.ntmps3
    go_wp2_with fail
    refine (Expr.sz_any t _ _ _ (TrIn_alloc hx _) (by omega) (by omega)).mono ?_
    rintro e w1 ⟨rfl, hb⟩
    go_wp2_with fail
    go_ret
    exact Ret.mk rfl (below_next (below_alloc _ _) hb)
  · have hsm := small_of_sz t 1048576 (by omega) (by omega)
    go_enter Tryd.func3, Tryd.ntmps3
    go_wp2_with fail
    refine (Expr.sz_any t _ _ _ (TrIn_alloc hx _) (by omega) (by omega)).mono ?_
    rintro e w1 ⟨rfl, hb⟩
    have b1 := box3_next hb (box3_new ..)
    have B := below_next (below_alloc ..) hb
    clear hb
    go_wp2_with fail
    refine (Expr.to_any t _ _ (TrIn_below B hx) hsm).mono ?_
    rintro e w2 ⟨v1, rfl, hn1, hb⟩
    replace b1 := box3_next hb b1
    replace B := below_next B hb
    clear hb
    obtain ⟨a1, c1, rfl⟩ := TrIn_shape hn1.any
    go_wp2_with fail
    refine (Expr.specFmt_any t _ _ hn1.any).mono ?_
    rintro e w3 ⟨rfl, hb⟩
    replace b1 := box3_next hb b1
    replace B := below_next B hb
    clear hb hn1
    go_wp2_with fail
    refine (Expr.to_any t _ _ (TrIn_below B hx) hsm).mono ?_
    rintro e w4 ⟨v2, rfl, hn2, hb⟩
    replace b1 := box3_next hb b1
    replace B := below_next B hb
    clear hb
    obtain ⟨a2, c2, rfl⟩ := TrIn_shape hn2.any
    go_wp2_with fail
    refine (Expr.fmt_any t _ _ (TrIn_below (by repeat (first | exact Below.refl _ _ | assumption | refine below_a ?_ _ | refine below_o ?_ _ | refine below_d ?_ | refine below_n ?_ _ | refine below_s ?_ (by first | (simp; done) | (simp; omega) | omega) _)) hn2.any) (Expr.Sg_below (by repeat (first | exact Below.refl _ _ | assumption | refine below_a ?_ _ | refine below_o ?_ _ | refine below_d ?_ | refine below_n ?_ _ | refine below_s ?_ (by first | (simp; done) | (simp; omega) | omega) _)) HG.out)).mono ?_
    rintro e w5 ⟨rfl, hb⟩
    have b2 := box3_next hb (box3_new ..)
    replace hb := below_next (below_alloc ..) hb
    replace hn2 := TrIn_below hb hn2.any
    replace b1 := box3_next hb b1
    replace B := below_next B hb
    clear hb
    go_wp2_with fail
    have Bd := below_d B
    have hnd := TrIn_below (below_d (Below.refl w5.heap.size w5)) hn2
    have h5 : Box3 w5.drew w.heap.size (.int .i64 t.kind) (.int .i64 t.val) (.slice a t.kids.length c) := b1
    have h6 : Box3 w5.drew w4.heap.size (.int .i64 t.kind) (.int .i64 t.val) (.slice a2 t.kids.length c2) := b2
    go_region_held3 (fun w' => w'.cell? ⟨w4.heap.size, 0, none⟩ = some (.int .i64 t.kind) ∧ w'.cell? ⟨w4.heap.size, 1, none⟩ = some (.int .i64 t.val) ∧ w'.cell? ⟨w4.heap.size, 2, none⟩ = some (.slice a2 t.kids.length c2) ∧
        w'.cell? ⟨w.heap.size, 0, none⟩ = some (.int .i64 t.kind) ∧ w'.cell? ⟨w.heap.size, 1, none⟩ = some (.int .i64 t.val) ∧ w'.cell? ⟨w.heap.size, 2, none⟩ = some (.slice a t.kids.length c))
      (first | exact ⟨h6.2.1, h6.2.2.1, h6.2.2.2.1, h5.2.1, h5.2.2.1, h5.2.2.2.1⟩ | exact ⟨k6.2.1, k6.2.2.1, k6.2.2.2.1, k5.2.1, k5.2.2.1, k5.2.2.2.1⟩ | exact ⟨l6.2.1, l6.2.2.1, l6.2.2.2.1, l5.2.1, l5.2.2.1, l5.2.2.2.1⟩)
      (first
        | (go_at_call 6; refine (Expr.to_any t _ _ (TrIn_below Bd hx) hsm).mono ?_; rintro e w6 ⟨v3, rfl, hn3, hb⟩; obtain ⟨a3, c3, rfl⟩ := TrIn_shape hn3.any; have k5 := box3_next hb h5; have k6 := box3_next hb h6; have hm := TrIn_below hb hnd; have B6 := below_next Bd hb; clear hb)
        | (go_at_call 8; refine (Expr.eq_any t _ t _ _ hm hn3.any).mono ?_; rintro e w7 ⟨rfl, hb⟩; rw [eqT_refl]; have l5 := box3_next hb k5; have l6 := box3_next hb k6; have B7 := below_next B6 hb; clear hb))
    go_wp2_with fail
    go_ret
    exact Ret.mk rfl B7
end Go.Proofs.YtagbindamcfnoaaDoor
