/- FnExactEvalExpr returns true for every expression and all numbers. Conditions: none. -/
import Derived.Test.YtagbindamcfnoaaExprA
import Derived.Test.YtagbindamcfnoaaIntsA
import Derived.Test.YtagbindamcfnoaaEvalX
import Derived.Deep.RegionHeld3
namespace Go.Proofs.Ytagbindamcfnoaa
open Go.RowKit

set_option maxHeartbeats 2000000 in
theorem walk_FnExactEvalExpr (t : Tr) (l : List Int) (w : World) (x : Value) (b : Option Addr) (d : Nat) (hx : TrIn Any w t x) (hl : IntsIn Any w b l) (hd : l.length ≤ d) (hd2 : d ≤ maxLen) :
    Calls Try.prog 7 #[x, .slice b l.length d] w (Ret (.bool true) w) := by
  have hx0 := hx
  obtain ⟨a, c, rfl⟩ := TrIn_shape hx
  have hbd := szT_bd t 1048576 (by omega) (by omega)
  have hd3 := hd2
  unfold maxLen at hd3
  by_cases hlen : l.length > 1048576
  · have hlen2 : (l.length : Int) > 1048576 := by omega
    go_enter Try.func7, Try.ntmps7
    go_wp2_with fail
    go_ret
    exact Ret.mk rfl (by repeat (first | exact Below.refl _ _ | assumption | refine below_a ?_ _ | refine below_o ?_ _ | refine below_d ?_ | refine below_n ?_ _ | refine below_s ?_ (by first | (simp; done) | (simp; omega) | omega) _))
  have hlen2 : ¬ ((l.length : Int) > 1048576) := by omega
  have hlen3 : l.length ≤ 1048576 := by omega
  by_cases hs : szT t 1048576 < 0
  · go_enter Try.func7, Try.ntmps7
    go_wp2_with fail
    refine (Expr.sz_any t _ _ _ (TrIn_alloc hx _) (by omega) (by omega)).mono ?_
    rintro e w1 ⟨rfl, hb⟩
    go_wp2_with fail
    go_ret
    exact Ret.mk rfl (below_next (below_alloc _ _) hb)
  · have hsm := small_of_sz t 1048576 (by omega) (by omega)
    go_enter Try.func7, Try.ntmps7
    go_wp2_with fail
    refine (Expr.sz_any t _ _ _ (TrIn_alloc hx _) (by omega) (by omega)).mono ?_
    rintro e w1 ⟨rfl, hb⟩
    have b1 := box3_next hb (box3_new ..)
    have B := below_next (below_alloc ..) hb
    clear hb
    go_wp2_with fail
    refine (Expr.to_any t _ _ (TrIn_below B hx) hsm).mono ?_
    rintro e w2 ⟨v1, rfl, hn1, hb⟩
    replace b1 := box3_next hb b1
    replace B := below_next B hb
    clear hb
    obtain ⟨a1, c1, rfl⟩ := TrIn_shape hn1.any
    go_wp2_with fail
    refine (toIntS_any l _ _ d (hl.below B) hlen3 hd hd2).mono ?_
    rintro e w3 ⟨v2, rfl, ⟨rfl, hr2⟩, hb⟩
    have hi2 := Row.ints (p := Any) hr2 hl.2 trivial
    replace b1 := box3_next hb b1
    replace B := below_next B hb
    have hn1' := TrIn_below hb hn1.any
    clear hb hn1 hr2
    go_wp2_with fail
    refine (Expr.specEval_any t l _ _ _ _ hn1' hi2 (Nat.le_refl _) (by unfold maxLen; omega)).mono ?_
    rintro e w4 ⟨rfl, hb⟩
    replace b1 := box3_next hb b1
    replace B := below_next B hb
    clear hb hn1' hi2
    go_wp2_with fail
    refine (Expr.to_any t _ _ (TrIn_below B hx) hsm).mono ?_
    rintro e w5 ⟨v1, rfl, hn1, hb⟩
    replace b1 := box3_next hb b1
    replace B := below_next B hb
    clear hb
    obtain ⟨a2, c2, rfl⟩ := TrIn_shape hn1.any
    go_wp2_with fail
    refine (toIntS_any l _ _ d (hl.below (by repeat (first | exact Below.refl _ _ | assumption | refine below_a ?_ _ | refine below_o ?_ _ | refine below_d ?_ | refine below_n ?_ _ | refine below_s ?_ (by first | (simp; done) | (simp; omega) | omega) _))) hlen3 hd hd2).mono ?_
    rintro e w6 ⟨v2, rfl, ⟨rfl, hr2⟩, hb⟩
    have b2 := box3_next hb (box3_new ..)
    have hi2 := Row.ints (p := Any) hr2 hl.2 trivial
    simp only [World.size_alloc] at hi2
    replace hb := below_next (below_alloc ..) hb
    replace b1 := box3_next hb b1
    replace B := below_next B hb
    have hn1' := TrIn_below hb hn1.any
    clear hb hn1 hr2
    go_wp2_with fail
    refine (Expr.eval_any t l _ _ _ _ hn1' hi2 (Nat.le_refl _) (by unfold maxLen; omega)).mono ?_
    rintro e w7 ⟨rfl, hb⟩
    replace b1 := box3_next hb b1
    replace b2 := box3_next hb b2
    replace B := below_next B hb
    replace hn1' := TrIn_below hb hn1'
    replace hi2 := hi2.below hb
    clear hb
    go_wp2_with fail
    have Bd := below_d B; have hnd := TrIn_below (below_d (Below.refl w7.heap.size w7)) hn1'; have h5 : Box3 w7.drew (w.heap.size) (.int .i64 t.kind) (.int .i64 t.val) (.slice a t.kids.length c) := b1; have h6 : Box3 w7.drew (w5.heap.size) (.int .i64 t.kind) (.int .i64 t.val) (.slice a2 t.kids.length c2) := b2; go_region_held3 (fun w' => w'.cell? ⟨w5.heap.size, 0, none⟩ = some (.int .i64 t.kind) ∧ w'.cell? ⟨w5.heap.size, 1, none⟩ = some (.int .i64 t.val) ∧ w'.cell? ⟨w5.heap.size, 2, none⟩ = some (.slice a2 t.kids.length c2) ∧ w'.cell? ⟨w.heap.size, 0, none⟩ = some (.int .i64 t.kind) ∧ w'.cell? ⟨w.heap.size, 1, none⟩ = some (.int .i64 t.val) ∧ w'.cell? ⟨w.heap.size, 2, none⟩ = some (.slice a t.kids.length c)) (first | exact ⟨h6.2.1, h6.2.2.1, h6.2.2.2.1, h5.2.1, h5.2.2.1, h5.2.2.2.1⟩ | exact ⟨k6.2.1, k6.2.2.1, k6.2.2.2.1, k5.2.1, k5.2.2.1, k5.2.2.2.1⟩ | exact ⟨l6.2.1, l6.2.2.1, l6.2.2.2.1, l5.2.1, l5.2.2.1, l5.2.2.2.1⟩) (first | (go_at_call 13; refine (Expr.to_any t _ _ (TrIn_below Bd hx) hsm).mono ?_; rintro e w81 ⟨v3, rfl, hn3, hb⟩; obtain ⟨a3, c3, rfl⟩ := TrIn_shape hn3.any; have k5 := box3_next hb h5; have k6 := box3_next hb h6; have hm := TrIn_below hb hnd; have M6 := hb; clear hb) | (go_at_call 15; refine (Expr.eq_any t _ t _ _ hm hn3.any).mono ?_; rintro e w82 ⟨rfl, hb⟩; rw [eqT_refl]; have l5 := box3_next hb k5; have l6 := box3_next hb k6; have M7 := below_next M6 hb; clear hb)); clear h5 h6 k5 k6 hm hn3 hnd; have B7 := below_next Bd M7; have M8 := below_next (below_d (Below.refl w7.heap.size w7)) M7; clear Bd M7
    replace hi2 := hi2.below M8
    clear M8
    go_wp2_with fail
    refine (toIntS_any l _ _ d (hl.below B7) hlen3 hd hd2).mono ?_
    rintro e w9 ⟨v2, rfl, ⟨rfl, hr2⟩, hb⟩
    replace B7 := below_next B7 hb
    replace hi2 := hi2.below hb
    have hi3 := Row.ints (p := Any) hr2 hl.2 trivial
    clear hb hr2
    go_wp2_with fail
    refine (eqIntS_any l l _ _ _ _ _ hi2 hi3 (Nat.le_refl _) (by unfold maxLen; omega) (Nat.le_refl _) (by unfold maxLen; omega)).mono ?_
    rintro e w10 ⟨rfl, hb⟩
    rw [beq_self_eq_true]
    replace B7 := below_next B7 hb
    go_wp2_with fail
    go_ret
    exact Ret.mk rfl B7
end Go.Proofs.Ytagbindamcfnoaa
