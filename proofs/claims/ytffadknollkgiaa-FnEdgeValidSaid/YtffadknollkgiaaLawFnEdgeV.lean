/- FnEdgeValid returns true for every argument. Conditions: none. -/
import Derived.Test.YtffadknollkgiaaDrawEdgeV
import Derived.Test.YtffadknollkgiaaEdgeImplV
import Derived.Test.YtffadknollkgiaaEdgeSpecV
namespace Go.Proofs.Ytffadknollkgiaa
open Go.RowKit
set_option linter.unusedVariables false
set_option linter.unusedSimpArgs false

theorem okB_four {e : Ed} {n : Int} (h : Edge.okB e n = true) : Edge.okB e 4 = true ∧ Edge.okB e 5 = false ∧ Edge.okB { e with sync := -e.sync } n = true ∧ exprL.valid e.guard = true ∧ -2 ≤ e.sync ∧ e.sync ≤ 2 := by
  obtain ⟨s, d, g, v, x, y⟩ := e
  simp only [Edge.okB, Edge.okV, Bool.and_eq_true, decide_eq_true_eq] at h ⊢
  obtain ⟨⟨h1, h2, h3⟩, h4, ⟨h5, h6⟩, h7, h8⟩ := h
  refine ⟨⟨⟨by omega, by omega, by omega⟩, h4, ⟨h5, h6⟩, h7, h8⟩, by simp, ⟨⟨by omega, by omega, by omega⟩, h4, by omega, h7, h8⟩, h4, by omega, by omega⟩

set_option maxRecDepth 100000 in
set_option maxHeartbeats 4000000 in
theorem walk_FnEdgeValid (w : World) (a : Option Addr) (len cap : Nat) (hb : ByteArg w a len cap) : Calls Try.prog 3 #[.slice a len cap] w (Ret (.bool true) w) := by
  have hcap := hb.2.1
  have hcap1 := hb.1
  unfold maxLen at hcap
  by_cases hlen : len > 1048576
  · have hlen2 : (len : Int) > 1048576 := by omega
    go_enter Try.func3, Try.ntmps3
    go_wp2_with fail
    go_ret
    exact Ret.mk rfl (by repeat (first | exact Below.refl _ _ | assumption | refine below_a ?_ _ | refine below_o ?_ _ | refine below_d ?_ | refine below_n ?_ _ | refine below_s ?_ (by first | (simp; done) | (simp; omega) | omega) _))
  have hlen2 : ¬ ((len : Int) > 1048576) := by omega
  have HB := hid hb
  clear hb
  go_enter Try.func3, Try.ntmps3
  go_wp2_with fail
  refine (drawEdgeValid_any _ a len cap HB.out).mono ?_
  rintro e w1 ⟨v, rfl, ⟨x, ed, n, rfl, hx, hn1, hn2, _, _⟩, B0⟩
  obtain ⟨a1, c1, a2, c2, rfl, i1, i2, i3, i4, hg, hv⟩ := id hx
  have HX := hid hx
  have HG := hid hg
  clear HB hx hg hv
  go_wp2_with fail
  have h0 := below_alloc w1 (.cells #[.int .i64 ed.src, .int .i64 ed.dst, .int .i64 ed.guard.kind, .int .i64 ed.guard.val, .slice a1 ed.guard.kids.length c1, .int .i64 ed.var, .int .i64 ed.val.kind, .int .i64 ed.val.val, .slice a2 ed.val.kids.length c2, .int .i64 ed.sync] 27)
  refine (Edge.edge_any ed n _ _ (EdIn_below h0 HX.out)).mono ?_
  rintro e w2 ⟨rfl, hb⟩
  have M := hid (below_next h0 hb)
  have P := hid (box10_next hb (box10_new w1 (.int .i64 ed.src) (.int .i64 ed.dst) (.int .i64 ed.guard.kind) (.int .i64 ed.guard.val) (.slice a1 ed.guard.kids.length c1) (.int .i64 ed.var) (.int .i64 ed.val.kind) (.int .i64 ed.val.val) (.slice a2 ed.val.kids.length c2) (.int .i64 ed.sync) 27))
  clear hb h0
  obtain ⟨xl, ⟨x0, x1, x2, x3, x4, x5, x6, x7, x8, x9⟩, ⟨f0, f1, f2, f3, f4, f5, f6, f7, f8, f9⟩⟩ := id P.out
  go_wp2_with fail
  refine (Edge.specEdge_any ed n _ _ (EdIn_below M.out HX.out)).mono ?_
  rintro e w3 ⟨rfl, hb⟩
  replace M := hid (below_next M.out hb)
  replace P := hid (box10_next hb P.out)
  clear hb xl x0 x1 x2 x3 x4 x5 x6 x7 x8 x9 f0 f1 f2 f3 f4 f5 f6 f7 f8 f9
  obtain ⟨xl, ⟨x0, x1, x2, x3, x4, x5, x6, x7, x8, x9⟩, ⟨f0, f1, f2, f3, f4, f5, f6, f7, f8, f9⟩⟩ := id P.out
  by_cases hk : Edge.okB ed n = true
  · obtain ⟨k1, k2, k3, k4, k5, k6⟩ := okB_four hk
    rw [hk]
    have K1 := hid k1
    have K2 := hid k2
    have K3 := hid k3
    have K4 := hid k4
    clear k1 k2 k3 k4 hk
    have hneg : wrap64 (-ed.sync) = -ed.sync := by simp only [wrap64]; omega
    have hM := M.out.size
    go_upto_region 9 with fail
    have h1 := below_alloc w3 (.cells #[.int .i64 ed.src, .int .i64 ed.dst, .int .i64 ed.guard.kind, .int .i64 ed.guard.val, .slice a1 ed.guard.kids.length c1, .int .i64 ed.var, .int .i64 ed.val.kind, .int .i64 ed.val.val, .slice a2 ed.val.kids.length c2, .int .i64 (-ed.sync)] 27)
    have Q := hid (box10_new w3 (.int .i64 ed.src) (.int .i64 ed.dst) (.int .i64 ed.guard.kind) (.int .i64 ed.guard.val) (.slice a1 ed.guard.kids.length c1) (.int .i64 ed.var) (.int .i64 ed.val.kind) (.int .i64 ed.val.val) (.slice a2 ed.val.kids.length c2) (.int .i64 (-ed.sync)) 27)
    replace P := hid (box10_next h1 P.out)
    replace M := hid (below_next M.out h1)
    obtain ⟨W0, hW0⟩ : ∃ W, W = w3.alloc (.cells #[.int .i64 ed.src, .int .i64 ed.dst, .int .i64 ed.guard.kind, .int .i64 ed.guard.val, .slice a1 ed.guard.kids.length c1, .int .i64 ed.var, .int .i64 ed.val.kind, .int .i64 ed.val.val, .slice a2 ed.val.kids.length c2, .int .i64 (-ed.sync)] 27) := ⟨_, rfl⟩
    rw [← hW0] at P M Q ⊢
    obtain ⟨O, hO⟩ : ∃ O, O = w3.heap.size := ⟨_, rfl⟩
    rw [← hO] at Q ⊢
    clear hW0 hO h1 hM hneg xl x0 x1 x2 x3 x4 x5 x6 x7 x8 x9 f0 f1 f2 f3 f4 f5 f6 f7 f8 f9
    obtain ⟨xl, ⟨x0, x1, x2, x3, x4, x5, x6, x7, x8, x9⟩, _⟩ := id P.out
    go_wp2_with fail
    refine (Edge.edge_any ed 4 _ _ (EdIn_below M.out HX.out)).mono ?_
    rintro e w4 ⟨rfl, hb⟩
    rw [K1.out]
    replace M := hid (below_next M.out hb)
    replace P := hid (box10_next hb P.out)
    replace Q := hid (box10_next hb Q.out)
    clear hb xl x0 x1 x2 x3 x4 x5 x6 x7 x8 x9
    obtain ⟨xl, ⟨x0, x1, x2, x3, x4, x5, x6, x7, x8, x9⟩, _⟩ := id P.out
    go_wp2_with fail
    refine (Edge.edge_any ed 5 _ _ (EdIn_below M.out HX.out)).mono ?_
    rintro e w5 ⟨rfl, hb⟩
    rw [K2.out]
    replace M := hid (below_next M.out hb)
    replace P := hid (box10_next hb P.out)
    replace Q := hid (box10_next hb Q.out)
    clear hb xl x0 x1 x2 x3 x4 x5 x6 x7 x8 x9
    obtain ⟨xl, ⟨x0, x1, x2, x3, x4, x5, x6, x7, x8, x9⟩, _⟩ := id Q.out
    go_wp2_with fail
    have hy : EdIn Any w5 { ed with sync := -ed.sync } (.agg #[.int .i64 ed.src, .int .i64 ed.dst, .int .i64 ed.guard.kind, .int .i64 ed.guard.val, .slice a1 ed.guard.kids.length c1, .int .i64 ed.var, .int .i64 ed.val.kind, .int .i64 ed.val.val, .slice a2 ed.val.kids.length c2, .int .i64 (-ed.sync)]) := by
      obtain ⟨_, _, _, _, he, _, _, _, _, g1, g2⟩ := EdIn_below M.out HX.out
      simp only [Value.agg.injEq, Array.mk.injEq, List.cons.injEq, and_true, Value.slice.injEq, true_and] at he
      obtain ⟨⟨rfl, rfl⟩, rfl, rfl⟩ := he
      exact ⟨_, _, _, _, rfl, i1, i2, i3, (show i64 (-ed.sync) by unfold i64; omega), g1, g2⟩
    refine (Edge.edge_any { ed with sync := -ed.sync } n _ _ hy).mono ?_
    rintro e w6 ⟨rfl, hb⟩
    rw [K3.out]
    replace M := hid (below_next M.out hb)
    replace P := hid (box10_next hb P.out)
    clear hb hy xl x0 x1 x2 x3 x4 x5 x6 x7 x8 x9
    obtain ⟨xl, ⟨x0, x1, x2, x3, x4, x5, x6, x7, x8, x9⟩, _⟩ := id P.out
    go_wp2_with fail
    refine (Expr.valid_any ed.guard _ _ (TrIn_below M.out HG.out)).mono ?_
    rintro e w7 ⟨rfl, hb⟩
    rw [K4.out]
    go_wp2_with fail
    go_ret
    exact Ret.mk rfl (below_next B0 (below_next M.out hb))
  · have hk2 : Edge.okB ed n = false := by simpa using hk
    rw [hk2]
    go_wp2_with fail
    refine (Edge.specEdge_any ed n _ _ (EdIn_below M.out HX.out)).mono ?_
    rintro e w4 ⟨rfl, hb⟩
    rw [hk2]
    go_wp2_with fail
    go_ret
    exact Ret.mk rfl (below_next B0 (below_next M.out hb))
end Go.Proofs.Ytffadknollkgiaa
