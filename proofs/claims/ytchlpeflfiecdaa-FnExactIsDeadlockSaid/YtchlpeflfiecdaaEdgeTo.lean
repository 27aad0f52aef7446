/- The laws' toEdge: a copy of an edge, in new memory. Conditions: those of each contract. -/
import Derived.Test.YtchlpeflfiecdaaEdgeA
namespace Go.Proofs.Ytchlpeflfiecdaa
open Go.RowKit
namespace Edge

set_option maxRecDepth 100000 in
set_option maxHeartbeats 4000000 in
theorem to_any (e : Ed) (w : World) (x : Value) (hx : EdIn Any w e x) (hs : SmallE e) : Calls Try.prog 14 #[x] w (RetP (NewEd w.heap.size e) w) := by
  obtain ⟨a, c, a', c', rfl, i1, i2, i3, i4, hg, hv⟩ := hx
  have HG := hid (fun w' (M : Below w.heap.size w w') => Expr.to_any e.guard w' _ (TrIn_below M hg) hs.1)
  have HV := hid (fun w' (M : Below w.heap.size w w') => Expr.to_any e.val w' _ (TrIn_below M hv) hs.2)
  have HI := hid (And.intro (And.intro i1 i2) (And.intro i3 i4))
  clear hg hv hs i1 i2 i3 i4
  go_enter Try.func14, Try.ntmps14
  go_wp2_with fail
  refine (HG.out _ (by repeat (first | exact Below.refl _ _ | assumption | refine below_a ?_ _ | refine below_o ?_ _ | refine below_d ?_ | refine below_n ?_ _ | refine below_s ?_ (by first | (simp; done) | (simp; omega) | omega) _))).mono ?_
  rintro y w1 ⟨v1, rfl, hn1, hb⟩
  obtain ⟨a1, c1, rfl⟩ := TrIn_shape hn1.any
  have b1 := box10_next hb (box10_next (below_alloc _ _) (box10_next (below_alloc _ _) (box10_new w _ _ _ _ _ _ _ _ _ _ _)))
  have b2 := box10_next hb (box10_next (below_alloc _ _) (box10_at (B := w.heap.size + 1) (by simp) _ _ _ _ _ _ _ _ _ _ _))
  have b3 := box10_next hb (box10_at (B := w.heap.size + 1 + 1) (by simp) _ _ _ _ _ _ _ _ _ _ _)
  have B := hid (below_next (show Below w.heap.size w _ from below_next (below_next (below_alloc _ _) (below_alloc _ _)) (below_alloc _ _)) hb)
  replace hn1 := hid (hn1.mono (B' := w.heap.size + 3) (by simp))
  clear hb
  obtain ⟨z0, ⟨p0, p1, p2, p3, p4, p5, p6, p7, p8, p9⟩, _⟩ := id b1
  obtain ⟨y0, ⟨q0, q1, q2, q3, q4, q5, q6, q7, q8, q9⟩, ⟨f0, f1, f2, f3, f4, f5, f6, f7, f8, f9⟩⟩ := id b3
  go_wp2_with fail
  have hs1 := b3.1
  have M := ((((But.set w1 (w.heap.size + 1 + 1) 2 (.int .i64 e.guard.kind)).trans (But.set _ _ 3 (.int .i64 e.guard.val))).trans (But.set _ _ 4 (.slice a1 e.guard.kids.length c1))).trans (But.set _ _ 5 (.int .i64 e.var)))
  have b1' := box10_but M (by omega) b1
  have b2' := box10_but M (by omega) b2
  have b3' := box10_set5 (box10_set4 (box10_set3 (box10_set2 b3 (.int .i64 e.guard.kind)) (.int .i64 e.guard.val)) (.slice a1 e.guard.kids.length c1)) (.int .i64 e.var)
  have hn1' := hid (hn1.out.keep (Keep.but M (by omega)))
  have BW := hid (M.new B.out (by omega))
  clear b1 b2 b3 hn1 M B z0 p0 p1 p2 p3 p4 p5 p6 p7 p8 p9 y0 q0 q1 q2 q3 q4 q5 q6 q7 q8 q9 f0 f1 f2 f3 f4 f5 f6 f7 f8 f9
  refine (HV.out _ BW.out).mono ?_
  rintro y w2 ⟨v2, rfl, hn2, hb⟩
  obtain ⟨a2, c2, rfl⟩ := TrIn_shape hn2.any
  have b1 := box10_next hb b1'
  have b2 := box10_next hb b2'
  have b3 := box10_next hb b3'
  have hn1 := hid (hn1'.out.below hb)
  have hs2 : w1.heap.size ≤ w2.heap.size := by have := hb.size; simpa using this
  replace hn2 := hid (hn2.mono (B' := w.heap.size + 3) (by simp; omega))
  have B := hid (below_next BW.out hb)
  clear hb b1' b2' b3' hn1' BW
  obtain ⟨z0, ⟨p0, p1, p2, p3, p4, p5, p6, p7, p8, p9⟩, _⟩ := id b1
  obtain ⟨x0, ⟨r0, r1, r2, r3, r4, r5, r6, r7, r8, r9⟩, ⟨g0, g1, g2, g3, g4, g5, g6, g7, g8, g9⟩⟩ := id b2
  obtain ⟨y0, ⟨q0, q1, q2, q3, q4, q5, q6, q7, q8, q9⟩, ⟨f0, f1, f2, f3, f4, f5, f6, f7, f8, f9⟩⟩ := id b3
  go_wp2_with fail
  all_goals
    have M2 := ((((But.set w2 (w.heap.size + 1 + 1) 6 (.int .i64 e.val.kind)).trans (But.set _ _ 7 (.int .i64 e.val.val))).trans (But.set _ _ 8 (.slice a2 e.val.kids.length c2))).trans (But.set _ _ 9 (.int .i64 e.sync)))
    have T := box10_fill (box10_but M2 (by omega) b2) (.int .i64 e.src) (.int .i64 e.dst) (.int .i64 e.guard.kind) (.int .i64 e.guard.val) (.slice a1 e.guard.kids.length c1) (.int .i64 e.var) (.int .i64 e.val.kind) (.int .i64 e.val.val) (.slice a2 e.val.kids.length c2) (.int .i64 e.sync)
    have K := keep_set10 (Keep.but (B := w.heap.size + 3) M2 (by omega)) (P := w.heap.size + 1) (by omega) (.int .i64 e.src) (.int .i64 e.dst) (.int .i64 e.guard.kind) (.int .i64 e.guard.val) (.slice a1 e.guard.kids.length c1) (.int .i64 e.var) (.int .i64 e.val.kind) (.int .i64 e.val.val) (.slice a2 e.val.kids.length c2) (.int .i64 e.sync)
    have BB := below_set10 (M2.new B.out (by omega)) (P := w.heap.size + 1) (by omega) (.int .i64 e.src) (.int .i64 e.dst) (.int .i64 e.guard.kind) (.int .i64 e.guard.val) (.slice a1 e.guard.kids.length c1) (.int .i64 e.var) (.int .i64 e.val.kind) (.int .i64 e.val.val) (.slice a2 e.val.kids.length c2) (.int .i64 e.sync)
    obtain ⟨_, ⟨t0, t1, t2, t3, t4, t5, t6, t7, t8, t9⟩, _⟩ := T
    refine bodyPost_ret (v := .agg #[.int .i64 e.src, .int .i64 e.dst, .int .i64 e.guard.kind, .int .i64 e.guard.val, .slice a1 e.guard.kids.length c1, .int .i64 e.var, .int .i64 e.val.kind, .int .i64 e.val.val, .slice a2 e.val.kids.length c2, .int .i64 e.sync]) (by simp [results, Try.results14, go_sem, t0, t1, t2, t3, t4, t5, t6, t7, t8, t9]) rfl ?_
    exact RetP.mk ⟨a1, c1, a2, c2, rfl, HI.out.1.1, HI.out.1.2, HI.out.2.1, HI.out.2.2, (hn1.out.keep K).mono (by omega), (hn2.out.keep K).mono (by omega)⟩ BB
end Edge
end Go.Proofs.Ytchlpeflfiecdaa
