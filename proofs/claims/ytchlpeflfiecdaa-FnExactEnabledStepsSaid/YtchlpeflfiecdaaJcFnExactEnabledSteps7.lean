/- Joined texts (ReadyV, OwnPlain, CellsOwn, StepsA, StepEq, StepMk): contracts and plain laws. Conditions: those of each theorem. -/
import Derived.Test.YtchlpeflfiecdaaJcFnExactEnabledSteps6
import Derived.Test.YtchlpeflfiecdaaJcFnExactEnabledSteps0
import Derived.Test.YtchlpeflfiecdaaJcFnExactEnabledSteps3
import Derived.Test.YtchlpeflfiecdaaJcFnExactEnabledSteps2
import Derived.Test.YtchlpeflfiecdaaJcFnExactEnabledSteps1
import Derived.Maps.AppendAt
namespace Go.Proofs.Ytchlpeflfiecdaa
open Go.RowKit
set_option linter.unusedVariables false
set_option linter.unusedSimpArgs false
namespace Sys

/-- is an edge of process i ready -/
def rdy (ls vs : List Int) (i : Nat) (e : Ed) : Bool := decide (e.src = ls.getD i 0) && decide (evalT (Expr.gOf vs) e.guard ≠ 0)
theorem okSt_facts {s : Sy} {ls vs : List Int} (h : State.okSt s ls vs = true) : okSy s = true ∧ ls.length = s.procs.length ∧ Expr.okVals vs = true := by
  rw [State.okSt, Bool.and_eq_true, State.hasB, Bool.and_eq_true, Bool.and_eq_true, decide_eq_true_eq] at h
  exact ⟨h.1, h.2.1, h.2.2.1⟩
theorem guard_ok {q : Pr} (h : okP q = true) {e : Ed} (he : e ∈ q.edges) : exprL.shape e.guard 6 = true ∧ -2 ≤ e.sync ∧ e.sync ≤ 2 := by
  rw [okP] at h
  simp only [Bool.and_eq_true, decide_eq_true_eq, List.all_eq_true] at h
  have := h.1 e he
  rw [Edge.okB, Bool.and_eq_true, Edge.okV, Bool.and_eq_true, Bool.and_eq_true, Bool.and_eq_true] at this
  obtain ⟨_, h1, h2, _⟩ := this
  simp only [decide_eq_true_eq] at h2
  exact ⟨by rw [Lang.valid, Bool.and_eq_true] at h1; exact h1.1, h2.1, h2.2⟩

set_option maxRecDepth 100000 in
set_option maxHeartbeats 4000000 in
theorem specReady_any (s : Sy) (ls vs : List Int) (i k : Nat) (hok : State.okSt s ls vs = true) (hi : i < s.procs.length) (hk : k < s.procs[i].edges.length) (w : World) (x y : Value) (hx : SyIn Any w s x) (hy : State.PairIn Any w ls vs y) :
    Calls Try.prog 93 #[x, y, .int .i64 i, .int .i64 k] w (Ret (.bool (rdy ls vs i s.procs[i].edges[k])) w) := by
  obtain ⟨o1, o2, o3⟩ := okSt_facts hok
  obtain ⟨hgs, _⟩ := guard_ok ((okSy_procs o1).2 _ (List.getElem_mem hi)) (List.getElem_mem hk)
  obtain ⟨a, c, b, d, rfl, hc, hc2, hin, hd, hd2, hp⟩ := hx
  obtain ⟨a', b', c', d', rfl, hls, hvs, hc', hc2', hd', hd2'⟩ := hy
  have HVS := hid (Expr.okVals_vals o3 hvs)
  have h3 : vs.length = 3 := HVS.out.2.1
  rw [h3] at hd' ⊢
  obtain ⟨bb, ob, rfl, _, hb3, ac, cc, ⟨e0, e1⟩, hpr⟩ := SeqIn.at hp hi
  have hil : i < ls.length := by omega
  obtain ⟨bl, ol, rfl, hbl, _, l0⟩ := hls.1.at (Below.refl _ _) (show (ls.map (Value.int .i64))[i]? = some (.int .i64 (ls.getD i 0)) by rw [List.getElem?_map, List.getElem?_eq_getElem hil, List.getD_eq_getElem?_getD, List.getElem?_eq_getElem hil]; rfl)
  generalize s.procs[i] = q at *
  obtain ⟨_, _, e5, _, hc5, hc6, he5⟩ := hpr
  cases e5
  obtain ⟨be, oe, rfl, _, hbe, a1, c1, a2, c2, ⟨g0, g1, g2, g3, g4, g5, g6, g7, g8, g9⟩, hed⟩ := SeqIn.at he5 hk
  have hk2 : (k : Int) < (q.edges.length : Int) := by omega
  have hi2 : (i : Int) < (s.procs.length : Int) := by omega
  have hil2 : (i : Int) < (ls.length : Int) := by omega
  generalize q.edges[k] = e at *
  obtain ⟨_, _, _, _, e6, _, _, _, _, t1, t2⟩ := hed
  cases e6
  have HEV := hid (fun (W : World) (M : Below w.heap.size w W) => Expr.sv_any e.guard 6 W (.agg #[.int .i64 e.guard.kind, .int .i64 e.guard.val, .slice a1 e.guard.kids.length c1]) b' vs d' hgs (TrIn_below M t1) (HVS.out.below M) hd' hd2')
  have HR := hid (show rdy ls vs i e = (decide (e.src = ls.getD i 0) && decide (evalT (Expr.gOf vs) e.guard ≠ 0)) from rfl)
  generalize rdy ls vs i e = r at *
  generalize evalT (Expr.gOf vs) e.guard = v at *
  generalize ls.getD i 0 = loc at *
  generalize s.procs.length = np at *
  generalize ls.length = nl at *
  generalize q.edges.length = ne at *
  unfold maxLen at hc6 hd2 hc2' hd2'
  clear hgs o1 o2 o3 hok t1 t2 hp hls hvs he5 hin hc hc2 h3 hi hk hil HVS
  by_cases hs : e.src = loc
  · have hs2 : (e.src == loc) = true := by simp [hs]
    have HS := hid hs
    by_cases hv : v = 0
    · have E := hid (show r = false by rw [HR.out, hv]; simp)
      subst hv
      clear HR hs
      go_enter Try.func93, Try.ntmps93
      go_wp2_with fail
      obtain ⟨w1, hw1⟩ : ∃ w1 : World, Hid (w1 = (((w.alloc (.cells #[.slice a s.init.length c, .slice (some ⟨bb, ob, none⟩) np d] 45)).alloc (.cells #[.slice (some ⟨bl, ol, none⟩) nl c', .slice b' 3 d'] 62)).alloc (.cells #[.int .i64 e.src, .int .i64 e.dst, .int .i64 e.guard.kind, .int .i64 e.guard.val, .slice a1 e.guard.kids.length c1, .int .i64 e.var, .int .i64 e.val.kind, .int .i64 e.val.val, .slice a2 e.val.kids.length c2, .int .i64 e.sync] 33))) := ⟨_, hid rfl⟩
      have B1 := hid (show Below w.heap.size w w1 from by rw [hw1.out]; exact (by repeat (first | exact Below.refl _ _ | assumption | refine below_a ?_ _ | refine below_o ?_ _ | refine below_d ?_ | refine below_n ?_ _ | refine below_s ?_ (by first | (simp; done) | (simp; omega) | omega) _)))
      have XS := hid (show Box2 w1 (w.heap.size + 1) (.slice (some ⟨bl, ol, none⟩) nl c') (.slice b' 3 d') by rw [hw1.out]; exact box2_next (below_alloc _ _) (box2_at (by simp)))
      have XE := hid (show Box10 w1 (w.heap.size + 1 + 1) (.int .i64 e.src) (.int .i64 e.dst) (.int .i64 e.guard.kind) (.int .i64 e.guard.val) (.slice a1 e.guard.kids.length c1) (.int .i64 e.var) (.int .i64 e.val.kind) (.int .i64 e.val.val) (.slice a2 e.val.kids.length c2) (.int .i64 e.sync) by rw [hw1.out]; exact box10_at (by simp) ..)
      rw [← hw1.out]
      clear hw1 g0 g1 g2 g3 g4 g5 g6 g7 g8 g9 e0 e1
      have hbl1 : bl < w1.heap.size := by have := B1.out.size; omega
      have l1 := (B1.out.cell (p := ⟨bl, ol + i, none⟩) hbl).trans l0
      obtain ⟨s0, s1, s2, _⟩ := id XS.out
      obtain ⟨q0, ⟨u0, u1, u2, u3, u4, u5, u6, u7, u8, u9⟩, _⟩ := id XE.out
      clear l0
      refine wp_region_tail (C := fun wZ => ∃ xZ, wZ = World.over _ xZ) [0,1,2,3,4,5,6,7,8,9,10,11,12] [13,14,15,16] (16) (by kernel_rfl) (by kernel_rfl) (fun d _ _ _ _ h => by cases d <;> exact h) (bex (Below.refl _ _).drew) ?_; simp only [pick, List.getElem?_cons_succ, List.getElem?_cons_zero]; (repeat (go_big_quiet_step (fail))); refine wpQuiet_nil ?_; simp only [tailW]
      go_wp2_with fail
      refine (HEV.out _ (below_d B1.out)).mono ?_
      rintro _ w2 ⟨rfl, hb⟩
      have B2 := hid (show Below w1.heap.size w1 w2 from below_then (below_d (Below.refl _ _)) hb (by simp))
      have B3 := hid (below_then B1.out B2.out B1.out.size)
      clear hb
      go_wp2_with fail
      refine ⟨bex B2.out, ?_⟩
      go_wp2_with fail
      refine ⟨bex B2.out, ?_⟩
      go_wp2_with fail
      refine ⟨bex B2.out, ?_⟩
      go_wp2_with fail
      go_ret
      exact Ret.mk (bool_val (by rw [E.out]; try simp [hv])) B3.out
    · have E := hid (show r = true by rw [HR.out, hs]; simp [hv])
      have hv2 : (v != 0) = true := by simp [hv]
      clear HR hs
      go_enter Try.func93, Try.ntmps93
      go_wp2_with fail
      obtain ⟨w1, hw1⟩ : ∃ w1 : World, Hid (w1 = (((w.alloc (.cells #[.slice a s.init.length c, .slice (some ⟨bb, ob, none⟩) np d] 45)).alloc (.cells #[.slice (some ⟨bl, ol, none⟩) nl c', .slice b' 3 d'] 62)).alloc (.cells #[.int .i64 e.src, .int .i64 e.dst, .int .i64 e.guard.kind, .int .i64 e.guard.val, .slice a1 e.guard.kids.length c1, .int .i64 e.var, .int .i64 e.val.kind, .int .i64 e.val.val, .slice a2 e.val.kids.length c2, .int .i64 e.sync] 33))) := ⟨_, hid rfl⟩
      have B1 := hid (show Below w.heap.size w w1 from by rw [hw1.out]; exact (by repeat (first | exact Below.refl _ _ | assumption | refine below_a ?_ _ | refine below_o ?_ _ | refine below_d ?_ | refine below_n ?_ _ | refine below_s ?_ (by first | (simp; done) | (simp; omega) | omega) _)))
      have XS := hid (show Box2 w1 (w.heap.size + 1) (.slice (some ⟨bl, ol, none⟩) nl c') (.slice b' 3 d') by rw [hw1.out]; exact box2_next (below_alloc _ _) (box2_at (by simp)))
      have XE := hid (show Box10 w1 (w.heap.size + 1 + 1) (.int .i64 e.src) (.int .i64 e.dst) (.int .i64 e.guard.kind) (.int .i64 e.guard.val) (.slice a1 e.guard.kids.length c1) (.int .i64 e.var) (.int .i64 e.val.kind) (.int .i64 e.val.val) (.slice a2 e.val.kids.length c2) (.int .i64 e.sync) by rw [hw1.out]; exact box10_at (by simp) ..)
      rw [← hw1.out]
      clear hw1 g0 g1 g2 g3 g4 g5 g6 g7 g8 g9 e0 e1
      have hbl1 : bl < w1.heap.size := by have := B1.out.size; omega
      have l1 := (B1.out.cell (p := ⟨bl, ol + i, none⟩) hbl).trans l0
      obtain ⟨s0, s1, s2, _⟩ := id XS.out
      obtain ⟨q0, ⟨u0, u1, u2, u3, u4, u5, u6, u7, u8, u9⟩, _⟩ := id XE.out
      clear l0
      refine wp_region_tail (C := fun wZ => ∃ xZ, wZ = World.over _ xZ) [0,1,2,3,4,5,6,7,8,9,10,11,12] [13,14,15,16] (16) (by kernel_rfl) (by kernel_rfl) (fun d _ _ _ _ h => by cases d <;> exact h) (bex (Below.refl _ _).drew) ?_; simp only [pick, List.getElem?_cons_succ, List.getElem?_cons_zero]; (repeat (go_big_quiet_step (fail))); refine wpQuiet_nil ?_; simp only [tailW]
      go_wp2_with fail
      refine (HEV.out _ (below_d B1.out)).mono ?_
      rintro _ w2 ⟨rfl, hb⟩
      have B2 := hid (show Below w1.heap.size w1 w2 from below_then (below_d (Below.refl _ _)) hb (by simp))
      have B3 := hid (below_then B1.out B2.out B1.out.size)
      clear hb
      go_wp2_with fail
      refine ⟨bex B2.out, ?_⟩
      go_wp2_with fail
      refine ⟨bex B2.out, ?_⟩
      go_wp2_with fail
      refine ⟨bex B2.out, ?_⟩
      go_wp2_with fail
      go_ret
      exact Ret.mk (bool_val (by rw [E.out]; try simp [hv])) B3.out
  · have hs2 : (e.src == loc) = false := by simpa using hs
    have E := hid (show r = false by rw [HR.out]; simp [hs])
    clear HR hs
    go_enter Try.func93, Try.ntmps93
    go_wp2_with fail
    obtain ⟨w1, hw1⟩ : ∃ w1 : World, Hid (w1 = (((w.alloc (.cells #[.slice a s.init.length c, .slice (some ⟨bb, ob, none⟩) np d] 45)).alloc (.cells #[.slice (some ⟨bl, ol, none⟩) nl c', .slice b' 3 d'] 62)).alloc (.cells #[.int .i64 e.src, .int .i64 e.dst, .int .i64 e.guard.kind, .int .i64 e.guard.val, .slice a1 e.guard.kids.length c1, .int .i64 e.var, .int .i64 e.val.kind, .int .i64 e.val.val, .slice a2 e.val.kids.length c2, .int .i64 e.sync] 33))) := ⟨_, hid rfl⟩
    have B1 := hid (show Below w.heap.size w w1 from by rw [hw1.out]; exact (by repeat (first | exact Below.refl _ _ | assumption | refine below_a ?_ _ | refine below_o ?_ _ | refine below_d ?_ | refine below_n ?_ _ | refine below_s ?_ (by first | (simp; done) | (simp; omega) | omega) _)))
    have XS := hid (show Box2 w1 (w.heap.size + 1) (.slice (some ⟨bl, ol, none⟩) nl c') (.slice b' 3 d') by rw [hw1.out]; exact box2_next (below_alloc _ _) (box2_at (by simp)))
    have XE := hid (show Box10 w1 (w.heap.size + 1 + 1) (.int .i64 e.src) (.int .i64 e.dst) (.int .i64 e.guard.kind) (.int .i64 e.guard.val) (.slice a1 e.guard.kids.length c1) (.int .i64 e.var) (.int .i64 e.val.kind) (.int .i64 e.val.val) (.slice a2 e.val.kids.length c2) (.int .i64 e.sync) by rw [hw1.out]; exact box10_at (by simp) ..)
    rw [← hw1.out]
    clear hw1 g0 g1 g2 g3 g4 g5 g6 g7 g8 g9 e0 e1
    have hbl1 : bl < w1.heap.size := by have := B1.out.size; omega
    have l1 := (B1.out.cell (p := ⟨bl, ol + i, none⟩) hbl).trans l0
    obtain ⟨s0, s1, s2, _⟩ := id XS.out
    obtain ⟨q0, ⟨u0, u1, u2, u3, u4, u5, u6, u7, u8, u9⟩, _⟩ := id XE.out
    clear l0
    refine wp_region_tail (C := fun wZ => ∃ xZ, wZ = World.over _ xZ) [0,1,2,3,4,5,6,7,8,9,10,11,12] [13,14,15,16] (16) (by kernel_rfl) (by kernel_rfl) (fun d _ _ _ _ h => by cases d <;> exact h) (bex (Below.refl _ _).drew) ?_; simp only [pick, List.getElem?_cons_succ, List.getElem?_cons_zero]; (repeat (go_big_quiet_step (fail))); refine wpQuiet_nil ?_; simp only [tailW]
    go_wp2_with fail
    refine ⟨bex (below_d (Below.refl _ _)), ?_⟩
    go_wp2_with fail
    refine ⟨bex (below_d (Below.refl _ _)), ?_⟩
    go_wp2_with fail
    refine ⟨bex (below_d (Below.refl _ _)), ?_⟩
    go_wp2_with fail
    go_ret
    exact Ret.mk (bool_val (by rw [E.out])) (below_d B1.out)

set_option maxRecDepth 100000 in
set_option maxHeartbeats 4000000 in
theorem ready_any (s : Sy) (ls vs : List Int) (i k : Nat) (hok : State.okSt s ls vs = true) (hi : i < s.procs.length) (hk : k < s.procs[i].edges.length) (w : World) (x y : Value) (hx : SyIn Any w s x) (hy : State.PairIn Any w ls vs y) :
    Calls Try.prog 95 #[x, y, .int .i64 i, .int .i64 k] w (Ret (.bool (rdy ls vs i s.procs[i].edges[k])) w) := by
  obtain ⟨o1, o2, o3⟩ := okSt_facts hok
  obtain ⟨hgs, _⟩ := guard_ok ((okSy_procs o1).2 _ (List.getElem_mem hi)) (List.getElem_mem hk)
  obtain ⟨a, c, b, d, rfl, hc, hc2, hin, hd, hd2, hp⟩ := hx
  obtain ⟨a', b', c', d', rfl, hls, hvs, hc', hc2', hd', hd2'⟩ := hy
  have HVS := hid (Expr.okVals_vals o3 hvs)
  have h3 : vs.length = 3 := HVS.out.2.1
  rw [h3] at hd' ⊢
  obtain ⟨bb, ob, rfl, _, hb3, ac, cc, ⟨e0, e1⟩, hpr⟩ := SeqIn.at hp hi
  have hil : i < ls.length := by omega
  obtain ⟨bl, ol, rfl, hbl, _, l0⟩ := hls.1.at (Below.refl _ _) (show (ls.map (Value.int .i64))[i]? = some (.int .i64 (ls.getD i 0)) by rw [List.getElem?_map, List.getElem?_eq_getElem hil, List.getD_eq_getElem?_getD, List.getElem?_eq_getElem hil]; rfl)
  generalize s.procs[i] = q at *
  obtain ⟨_, _, e5, _, hc5, hc6, he5⟩ := hpr
  cases e5
  obtain ⟨be, oe, rfl, _, hbe, a1, c1, a2, c2, ⟨g0, g1, g2, g3, g4, g5, g6, g7, g8, g9⟩, hed⟩ := SeqIn.at he5 hk
  have hk2 : (k : Int) < (q.edges.length : Int) := by omega
  have hi2 : (i : Int) < (s.procs.length : Int) := by omega
  have hil2 : (i : Int) < (ls.length : Int) := by omega
  generalize q.edges[k] = e at *
  obtain ⟨_, _, _, _, e6, _, _, _, _, t1, t2⟩ := hed
  cases e6
  have HEV := hid (fun (W : World) (M : Below w.heap.size w W) => Expr.ev_any e.guard 6 W (.agg #[.int .i64 e.guard.kind, .int .i64 e.guard.val, .slice a1 e.guard.kids.length c1]) b' vs d' hgs (TrIn_below M t1) (HVS.out.below M) hd' hd2')
  have HR := hid (show rdy ls vs i e = (decide (e.src = ls.getD i 0) && decide (evalT (Expr.gOf vs) e.guard ≠ 0)) from rfl)
  generalize rdy ls vs i e = r at *
  generalize evalT (Expr.gOf vs) e.guard = v at *
  generalize ls.getD i 0 = loc at *
  generalize s.procs.length = np at *
  generalize ls.length = nl at *
  generalize q.edges.length = ne at *
  unfold maxLen at hc6 hd2 hc2' hd2'
  clear hgs o1 o2 o3 hok t1 t2 hp hls hvs he5 hin hc hc2 h3 hi hk hil HVS
  by_cases hs : e.src = loc
  · have hs2 : (loc == e.src) = true := by simp [hs]
    have HS := hid hs
    by_cases hv : v = 0
    · have E := hid (show r = false by rw [HR.out, hv]; simp)
      subst hv
      clear HR hs
      go_enter Try.func95, Try.ntmps95
      go_wp2_with fail
      obtain ⟨w1, hw1⟩ : ∃ w1 : World, Hid (w1 = (((w.alloc (.cells #[.slice a s.init.length c, .slice (some ⟨bb, ob, none⟩) np d] 45)).alloc (.cells #[.slice (some ⟨bl, ol, none⟩) nl c', .slice b' 3 d'] 62)).alloc (.cells #[.int .i64 e.src, .int .i64 e.dst, .int .i64 e.guard.kind, .int .i64 e.guard.val, .slice a1 e.guard.kids.length c1, .int .i64 e.var, .int .i64 e.val.kind, .int .i64 e.val.val, .slice a2 e.val.kids.length c2, .int .i64 e.sync] 33))) := ⟨_, hid rfl⟩
      have B1 := hid (show Below w.heap.size w w1 from by rw [hw1.out]; exact (by repeat (first | exact Below.refl _ _ | assumption | refine below_a ?_ _ | refine below_o ?_ _ | refine below_d ?_ | refine below_n ?_ _ | refine below_s ?_ (by first | (simp; done) | (simp; omega) | omega) _)))
      have XS := hid (show Box2 w1 (w.heap.size + 1) (.slice (some ⟨bl, ol, none⟩) nl c') (.slice b' 3 d') by rw [hw1.out]; exact box2_next (below_alloc _ _) (box2_at (by simp)))
      have XE := hid (show Box10 w1 (w.heap.size + 1 + 1) (.int .i64 e.src) (.int .i64 e.dst) (.int .i64 e.guard.kind) (.int .i64 e.guard.val) (.slice a1 e.guard.kids.length c1) (.int .i64 e.var) (.int .i64 e.val.kind) (.int .i64 e.val.val) (.slice a2 e.val.kids.length c2) (.int .i64 e.sync) by rw [hw1.out]; exact box10_at (by simp) ..)
      rw [← hw1.out]
      clear hw1 g0 g1 g2 g3 g4 g5 g6 g7 g8 g9 e0 e1
      have hbl1 : bl < w1.heap.size := by have := B1.out.size; omega
      have l1 := (B1.out.cell (p := ⟨bl, ol + i, none⟩) hbl).trans l0
      obtain ⟨s0, s1, s2, _⟩ := id XS.out
      obtain ⟨q0, ⟨u0, u1, u2, u3, u4, u5, u6, u7, u8, u9⟩, _⟩ := id XE.out
      clear l0
      refine wp_region_tail (C := fun wZ => ∃ xZ, wZ = World.over _ xZ) [0,1,2,3,4,5,6,7,8,9,10,11,12] [13,14,15,16] (16) (by kernel_rfl) (by kernel_rfl) (fun d _ _ _ _ h => by cases d <;> exact h) (bex (Below.refl _ _).drew) ?_; simp only [pick, List.getElem?_cons_succ, List.getElem?_cons_zero]; (repeat (go_big_quiet_step (fail))); refine wpQuiet_nil ?_; simp only [tailW]
      go_wp2_with fail
      refine (HEV.out _ (below_d B1.out)).mono ?_
      rintro _ w2 ⟨rfl, hb⟩
      have B2 := hid (show Below w1.heap.size w1 w2 from below_then (below_d (Below.refl _ _)) hb (by simp))
      have B3 := hid (below_then B1.out B2.out B1.out.size)
      clear hb
      go_wp2_with fail
      refine ⟨bex B2.out, ?_⟩
      go_wp2_with fail
      refine ⟨bex B2.out, ?_⟩
      go_wp2_with fail
      refine ⟨bex B2.out, ?_⟩
      go_wp2_with fail
      go_ret
      exact Ret.mk (bool_val (by rw [E.out]; try simp [hv])) B3.out
    · have E := hid (show r = true by rw [HR.out, hs]; simp [hv])
      have hv2 : (v != 0) = true := by simp [hv]
      clear HR hs
      go_enter Try.func95, Try.ntmps95
      go_wp2_with fail
      obtain ⟨w1, hw1⟩ : ∃ w1 : World, Hid (w1 = (((w.alloc (.cells #[.slice a s.init.length c, .slice (some ⟨bb, ob, none⟩) np d] 45)).alloc (.cells #[.slice (some ⟨bl, ol, none⟩) nl c', .slice b' 3 d'] 62)).alloc (.cells #[.int .i64 e.src, .int .i64 e.dst, .int .i64 e.guard.kind, .int .i64 e.guard.val, .slice a1 e.guard.kids.length c1, .int .i64 e.var, .int .i64 e.val.kind, .int .i64 e.val.val, .slice a2 e.val.kids.length c2, .int .i64 e.sync] 33))) := ⟨_, hid rfl⟩
      have B1 := hid (show Below w.heap.size w w1 from by rw [hw1.out]; exact (by repeat (first | exact Below.refl _ _ | assumption | refine below_a ?_ _ | refine below_o ?_ _ | refine below_d ?_ | refine below_n ?_ _ | refine below_s ?_ (by first | (simp; done) | (simp; omega) | omega) _)))
      have XS := hid (show Box2 w1 (w.heap.size + 1) (.slice (some ⟨bl, ol, none⟩) nl c') (.slice b' 3 d') by rw [hw1.out]; exact box2_next (below_alloc _ _) (box2_at (by simp)))
      have XE := hid (show Box10 w1 (w.heap.size + 1 + 1) (.int .i64 e.src) (.int .i64 e.dst) (.int .i64 e.guard.kind) (.int .i64 e.guard.val) (.slice a1 e.guard.kids.length c1) (.int .i64 e.var) (.int .i64 e.val.kind) (.int .i64 e.val.val) (.slice a2 e.val.kids.length c2) (.int .i64 e.sync) by rw [hw1.out]; exact box10_at (by simp) ..)
      rw [← hw1.out]
      clear hw1 g0 g1 g2 g3 g4 g5 g6 g7 g8 g9 e0 e1
      have hbl1 : bl < w1.heap.size := by have := B1.out.size; omega
      have l1 := (B1.out.cell (p := ⟨bl, ol + i, none⟩) hbl).trans l0
      obtain ⟨s0, s1, s2, _⟩ := id XS.out
      obtain ⟨q0, ⟨u0, u1, u2, u3, u4, u5, u6, u7, u8, u9⟩, _⟩ := id XE.out
      clear l0
      refine wp_region_tail (C := fun wZ => ∃ xZ, wZ = World.over _ xZ) [0,1,2,3,4,5,6,7,8,9,10,11,12] [13,14,15,16] (16) (by kernel_rfl) (by kernel_rfl) (fun d _ _ _ _ h => by cases d <;> exact h) (bex (Below.refl _ _).drew) ?_; simp only [pick, List.getElem?_cons_succ, List.getElem?_cons_zero]; (repeat (go_big_quiet_step (fail))); refine wpQuiet_nil ?_; simp only [tailW]
      go_wp2_with fail
      refine (HEV.out _ (below_d B1.out)).mono ?_
      rintro _ w2 ⟨rfl, hb⟩
      have B2 := hid (show Below w1.heap.size w1 w2 from below_then (below_d (Below.refl _ _)) hb (by simp))
      have B3 := hid (below_then B1.out B2.out B1.out.size)
      clear hb
      go_wp2_with fail
      refine ⟨bex B2.out, ?_⟩
      go_wp2_with fail
      refine ⟨bex B2.out, ?_⟩
      go_wp2_with fail
      refine ⟨bex B2.out, ?_⟩
      go_wp2_with fail
      go_ret
      exact Ret.mk (bool_val (by rw [E.out]; try simp [hv])) B3.out
  · have hs2 : (loc == e.src) = false := by simpa using fun h : loc = e.src => hs h.symm
    have E := hid (show r = false by rw [HR.out]; simp [hs])
    clear HR hs
    go_enter Try.func95, Try.ntmps95
    go_wp2_with fail
    obtain ⟨w1, hw1⟩ : ∃ w1 : World, Hid (w1 = (((w.alloc (.cells #[.slice a s.init.length c, .slice (some ⟨bb, ob, none⟩) np d] 45)).alloc (.cells #[.slice (some ⟨bl, ol, none⟩) nl c', .slice b' 3 d'] 62)).alloc (.cells #[.int .i64 e.src, .int .i64 e.dst, .int .i64 e.guard.kind, .int .i64 e.guard.val, .slice a1 e.guard.kids.length c1, .int .i64 e.var, .int .i64 e.val.kind, .int .i64 e.val.val, .slice a2 e.val.kids.length c2, .int .i64 e.sync] 33))) := ⟨_, hid rfl⟩
    have B1 := hid (show Below w.heap.size w w1 from by rw [hw1.out]; exact (by repeat (first | exact Below.refl _ _ | assumption | refine below_a ?_ _ | refine below_o ?_ _ | refine below_d ?_ | refine below_n ?_ _ | refine below_s ?_ (by first | (simp; done) | (simp; omega) | omega) _)))
    have XS := hid (show Box2 w1 (w.heap.size + 1) (.slice (some ⟨bl, ol, none⟩) nl c') (.slice b' 3 d') by rw [hw1.out]; exact box2_next (below_alloc _ _) (box2_at (by simp)))
    have XE := hid (show Box10 w1 (w.heap.size + 1 + 1) (.int .i64 e.src) (.int .i64 e.dst) (.int .i64 e.guard.kind) (.int .i64 e.guard.val) (.slice a1 e.guard.kids.length c1) (.int .i64 e.var) (.int .i64 e.val.kind) (.int .i64 e.val.val) (.slice a2 e.val.kids.length c2) (.int .i64 e.sync) by rw [hw1.out]; exact box10_at (by simp) ..)
    rw [← hw1.out]
    clear hw1 g0 g1 g2 g3 g4 g5 g6 g7 g8 g9 e0 e1
    have hbl1 : bl < w1.heap.size := by have := B1.out.size; omega
    have l1 := (B1.out.cell (p := ⟨bl, ol + i, none⟩) hbl).trans l0
    obtain ⟨s0, s1, s2, _⟩ := id XS.out
    obtain ⟨q0, ⟨u0, u1, u2, u3, u4, u5, u6, u7, u8, u9⟩, _⟩ := id XE.out
    clear l0
    refine wp_region_tail (C := fun wZ => ∃ xZ, wZ = World.over _ xZ) [0,1,2,3,4,5,6,7,8,9,10,11,12] [13,14,15,16] (16) (by kernel_rfl) (by kernel_rfl) (fun d _ _ _ _ h => by cases d <;> exact h) (bex (Below.refl _ _).drew) ?_; simp only [pick, List.getElem?_cons_succ, List.getElem?_cons_zero]; (repeat (go_big_quiet_step (fail))); refine wpQuiet_nil ?_; simp only [tailW]
    go_wp2_with fail
    refine ⟨bex (below_d (Below.refl _ _)), ?_⟩
    go_wp2_with fail
    refine ⟨bex (below_d (Below.refl _ _)), ?_⟩
    go_wp2_with fail
    refine ⟨bex (below_d (Below.refl _ _)), ?_⟩
    go_wp2_with fail
    go_ret
    exact Ret.mk (bool_val (by rw [E.out])) (below_d B1.out)

end Sys
end Go.Proofs.Ytchlpeflfiecdaa
namespace Go.Proofs.Ytchlpeflfiecdaa
open Go.RowKit

/-- all blocks but those of a list are kept -/
structure Only (S : List Nat) (w w' : World) : Prop where
  os : w'.os = w.os
  tape : w'.tape = w.tape
  output : w'.output = w.output
  size : w.heap.size ≤ w'.heap.size
  block : ∀ b, b < w.heap.size → b ∉ S → w'.heap[b]? = w.heap[b]?
theorem Only.refl (S : List Nat) (w : World) : Only S w w := ⟨rfl, rfl, rfl, Nat.le_refl _, fun _ _ _ => rfl⟩
theorem Only.trans {S : List Nat} {a b c : World} (h : Only S a b) (k : Only S b c) : Only S a c :=
  ⟨k.os.trans h.os, k.tape.trans h.tape, k.output.trans h.output, Nat.le_trans h.size k.size, fun i hi hd => (k.block i (Nat.lt_of_lt_of_le hi h.size) hd).trans (h.block i hi hd)⟩
theorem Only.mono {S S' : List Nat} {w w' : World} (h : Only S w w') (hs : ∀ b, b ∈ S → b ∈ S') : Only S' w w' := ⟨h.os, h.tape, h.output, h.size, fun b hb hn => h.block b hb (fun e => hn (hs b e))⟩
theorem Only.below {S : List Nat} {w w' : World} (h : Below w.heap.size w w') : Only S w w' := ⟨h.os, h.tape, h.output, h.size, fun b hb _ => h.block b hb⟩
theorem Only.set {S : List Nat} {w w' : World} (h : Only S w w') {a : Addr} (ha : a.block ∈ S) (v : Value) : Only S w (w'.setCell a v) :=
  ⟨h.os, h.tape, h.output, by simpa using h.size, fun b hb hn => by rw [Below.heap_setCell _ _ _ _ (show b ≠ a.block from fun e => hn (by rw [e]; exact ha))]; exact h.block b hb hn⟩
/-- the blocks are new since an older world -/
theorem Only.new {S : List Nat} {w W W' : World} (h : Only S W W') (hb : Below w.heap.size w W) (hs : ∀ b, b ∈ S → w.heap.size ≤ b) : Below w.heap.size w W' :=
  hb.trans ⟨h.os, h.tape, h.output, h.size, fun k hk => h.block k (Nat.lt_of_lt_of_le hk hb.size) (fun e => by have := hs k e; omega)⟩
theorem TrOwn_only {S : List Nat} {w w' : World} (h : Only S w w') {t : Tr} {x : Value} {bs : List Nat} (hx : TrOwn w t x bs) (hd : ∀ b, b ∈ bs → b ∉ S) : TrOwn w' t x bs :=
  (TrOwn_frame h.size).1 t x bs hx fun b hb => h.block b (TrOwn_lt.1 t x bs hx b hb) (hd b hb)

/-- a row of nodes, each in blocks of its own -/
def RowOf (w : World) (l : List Tr) (a : Option Addr) (bs : List Nat) : Prop :=
  (l = [] ∧ bs = []) ∨ ∃ R f r, a = some ⟨R, 0, none⟩ ∧ bs = R :: r ∧ R ∉ r ∧ Row w R (l.length * 3) f ∧ TrsOwn w f l 0 r

theorem TrOwn_row {w : World} {k v : Int} {kids : List Tr} {x : Value} {bs : List Nat} (h : TrOwn w (.mk k v kids) x bs) :
    ∃ a c, x = .agg #[.int .i64 k, .int .i64 v, .slice a kids.length c] ∧ i64 k ∧ i64 v ∧ kids.length ≤ c ∧ c ≤ maxLen ∧ RowOf w kids a bs := (TrOwn_mk ..).1 h
theorem row_TrOwn {w : World} {k v : Int} {kids : List Tr} {a : Option Addr} {c : Nat} {bs : List Nat} (h1 : i64 k) (h2 : i64 v) (h3 : kids.length ≤ c) (h4 : c ≤ maxLen) (h : RowOf w kids a bs) :
    TrOwn w (.mk k v kids) (.agg #[.int .i64 k, .int .i64 v, .slice a kids.length c]) bs := (TrOwn_mk ..).2 ⟨a, c, rfl, h1, h2, h3, h4, h⟩

/-- A NODE OF A ROW, AND WHAT MAY STAND IN ITS PLACE -/
theorem TrsOwn_replace {w : World} {f : Nat → Value} {t : Tr} : ∀ (l1 : List Tr) (l2 : List Tr) (o : Nat) (bs : List Nat), TrsOwn w f (l1 ++ t :: l2) o bs →
    ∃ r, (∀ b, b ∈ r → b ∈ bs) ∧ TrOwn w t (.agg #[f (o + l1.length * 3), f (o + l1.length * 3 + 1), f (o + l1.length * 3 + 2)]) r ∧
      ∀ (w' : World) (f' : Nat → Value) (t' : Tr), w.heap.size ≤ w'.heap.size → (∀ b, b ∈ bs → b ∉ r → w'.heap[b]? = w.heap[b]?) → (∀ i, i < o + l1.length * 3 ∨ o + l1.length * 3 + 3 ≤ i → f' i = f i) →
        TrOwn w' t' (.agg #[f' (o + l1.length * 3), f' (o + l1.length * 3 + 1), f' (o + l1.length * 3 + 2)]) r → TrsOwn w' f' (l1 ++ t' :: l2) o bs := by
  intro l1
  induction l1 with
  | nil =>
    intro l2 o bs h
    rw [List.nil_append, TrsOwn_cons] at h
    obtain ⟨r1, r2, rfl, hd, h1, h2⟩ := h
    refine ⟨r1, fun b hb => by simp [hb], by simpa using h1, fun w' f' t' hs hk hf ht => ?_⟩
    rw [List.nil_append, TrsOwn_cons]
    refine ⟨r1, r2, rfl, hd, by simpa using ht, ?_⟩
    refine (TrOwn_frame hs).2 _ _ _ _ (TrsOwn_congr h2 fun i hi _ => ?_) fun b hb => hk b (by simp [hb]) (fun e => hd b e hb)
    exact (hf i (.inr (by simpa using hi))).symm
  | cons u us ih =>
    intro l2 o bs h
    rw [List.cons_append, TrsOwn_cons] at h
    obtain ⟨r1, r2, rfl, hd, h1, h2⟩ := h
    obtain ⟨r, hr, hT, hrep⟩ := ih l2 (o + 3) r2 h2
    have e : o + 3 + us.length * 3 = o + (u :: us).length * 3 := by simp; omega
    rw [e] at hT hrep
    refine ⟨r, fun b hb => by simp [hr b hb], hT, fun w' f' t' hs hk hf ht => ?_⟩
    rw [List.cons_append, TrsOwn_cons]
    refine ⟨r1, r2, rfl, hd, ?_, hrep w' f' t' hs (fun b hb hn => hk b (by simp [hb]) hn) (fun i hi => hf i (by omega)) ht⟩
    have hl : ∀ i, i < 3 → f' (o + i) = f (o + i) := fun i hi => hf _ (.inl (by simp; omega))
    have h0 := hl 0 (by omega)
    rw [Nat.add_zero] at h0
    rw [h0, hl 1 (by omega), hl 2 (by omega)]
    exact (TrOwn_frame hs).1 _ _ _ h1 fun b hb => hk b (by simp [hb]) (fun e => hd b hb (hr b e))

mutual
/-- the nodes below, numbered from k on -/
def markT : Tr → Int → Tr | .mk a b kids, k => .mk a b (markL kids k)
def markL : List Tr → Int → List Tr
  | [], _ => []
  | t :: ts, k => markN t k :: markL ts (k + 2 * nodes t)
/-- a node and those below -/
def markN : Tr → Int → Tr | .mk _ _ kids, k => .mk k (k + 1) (markL kids (k + 2))
end
theorem markL_len : ∀ (l : List Tr) (k : Int), (markL l k).length = l.length
  | [], _ => by simp [markL]
  | t :: ts, k => by simp [markL, markL_len ts]

end Go.Proofs.Ytchlpeflfiecdaa
namespace Go.Proofs.Ytchlpeflfiecdaa
open Go.RowKit

/-- a row of values in a block of its own -/
def OwnV (l : List Value) (a : Option Addr) (bs : List Nat) (w : World) : Prop := (l = [] ∧ bs = []) ∨ ∃ R, a = some ⟨R, 0, none⟩ ∧ bs = [R] ∧ Row w R l.length (fun i => l.getD i undef)
theorem OwnV.frame {l : List Value} {a : Option Addr} {bs : List Nat} {w w' : World} (h : OwnV l a bs w) (hs : w.heap.size ≤ w'.heap.size) (hb : ∀ b, b ∈ bs → b < w.heap.size → w'.heap[b]? = w.heap[b]?) : OwnV l a bs w' := by
  rcases h with h | ⟨R, rfl, rfl, hr⟩
  · exact .inl h
  · exact .inr ⟨R, rfl, rfl, hr.kept hs (hb R (by simp) hr.1)⟩
theorem OwnV.below {l : List Value} {a : Option Addr} {bs : List Nat} {w w' : World} (h : OwnV l a bs w) (hb : Below w.heap.size w w') : OwnV l a bs w' := h.frame hb.size fun b _ hl => hb.block b hl
theorem OwnV.only {S : List Nat} {l : List Value} {a : Option Addr} {bs : List Nat} {w w' : World} (h : OwnV l a bs w) (ho : Only S w w') (hd : ∀ b, b ∈ bs → b ∉ S) : OwnV l a bs w' := h.frame ho.size fun b hb hl => ho.block b hl (hd b hb)
theorem OwnV.lt {l : List Value} {a : Option Addr} {bs : List Nat} {w : World} (h : OwnV l a bs w) : ∀ b, b ∈ bs → b < w.heap.size := by
  rcases h with ⟨_, rfl⟩ | ⟨R, rfl, rfl, hr⟩
  · simp
  · intro b hb; simp at hb; subst hb; exact hr.1
theorem OwnV.rowIn {l : List Value} {a : Option Addr} {bs : List Nat} {w : World} (h : OwnV l a bs w) {p : Nat → Prop} (hp : ∀ b, b ∈ bs → p b) : RowIn p w a l := by
  rcases h with ⟨rfl, _⟩ | ⟨R, rfl, rfl, hr⟩
  · exact .inl rfl
  · exact hr.rowIn (Nat.le_refl _) (fun i v hv => by simp [List.getD_eq_getElem?_getD, hv]) (hp R (by simp))
theorem OwnV.any {l : List Value} {a : Option Addr} {bs : List Nat} {w : World} (h : OwnV l a bs w) : RowIn Any w a l := h.rowIn fun _ _ => trivial

/-- a slice of values of one's own, in blocks from B on -/
def NewV (B : Nat) (l : List Value) (v : Value) (w' : World) : Prop := ∃ a c bs, v = .slice a l.length c ∧ l.length ≤ c ∧ c ≤ maxLen ∧ OwnV l a bs w' ∧ ∀ b, b ∈ bs → B ≤ b
theorem NewV.nil (B : Nat) (a : Option Addr) (c : Nat) (hc : c ≤ maxLen) (w : World) : NewV B [] (.slice a 0 c) w := ⟨a, c, [], rfl, Nat.zero_le _, hc, .inl ⟨rfl, rfl⟩, by simp⟩

/-- what mark writes into a row of n -/
def markV (M : Int → Value) (n : Nat) (k : Int) : List Value := (List.range n).map fun (i : Nat) => M (k + (i : Int))
theorem markV_len (M : Int → Value) (n : Nat) (k : Int) : (markV M n k).length = n := by simp [markV]
theorem markV_at (M : Int → Value) {n i : Nat} (k : Int) (h : i < n) : (markV M n k)[i]? = some (M (k + i)) := by simp [markV, h]
def mkB (k : Int) : Value := .bool (k % 3 == 0)
def mkI (k : Int) : Value := .int .i64 k

end Go.Proofs.Ytchlpeflfiecdaa
namespace Go.Proofs.Ytchlpeflfiecdaa
open Go.RowKit
set_option linter.unusedVariables false
set_option linter.unusedSimpArgs false
namespace Sys

theorem cell_below {w w' : World} (h : Below w.heap.size w w') {b o : Nat} {v : Value} (hb : b < w.heap.size) (hc : w.cell? ⟨b, o, none⟩ = some v) : w'.cell? ⟨b, o, none⟩ = some v := (World.cell?_of_block (w := w) (a := ⟨b, o, none⟩) (h.block b hb)).trans hc
theorem ownsRow_low {w : World} {base base' : Nat} {e : TypeId} {size : Nat} {v : Value} {n : Nat} {xs : List Value} (h : w.ownsRow base e size v n xs) (hb : base' ≤ base) : w.ownsRow base' e size v n xs :=
  ⟨h.1, h.2.imp id fun ⟨g, cap, cur, h1, h2, h3⟩ => ⟨g, cap, cur, h1, Nat.le_trans hb h2, h3⟩⟩
structure Stp where
  p : Int
  e : Int
  q : Int
  f : Int
def Stp.cells (t : Stp) : List Value := [.int .i64 t.p, .int .i64 t.e, .int .i64 t.q, .int .i64 t.f]
def stCells : List Stp → List Value
  | [] => []
  | t :: ts => t.cells ++ stCells ts
theorem stCells_append : ∀ l m : List Stp, stCells (l ++ m) = stCells l ++ stCells m
  | [], m => rfl
  | t :: ts, m => by simp [stCells, stCells_append ts m]
theorem stCells_len : ∀ l : List Stp, (stCells l).length = l.length * 4
  | [] => rfl
  | t :: ts => by simp [stCells, Stp.cells, stCells_len ts]; omega
theorem stCells_one : ∀ (l : List Stp) (u : Value), u ∈ stCells l → u.oneCell' = true
  | [], u, h => by cases h
  | t :: ts, u, h => by
    rw [stCells] at h
    rcases List.mem_append.1 h with h | h
    · simp [Stp.cells] at h
      rcases h with rfl | rfl | rfl | rfl <;> rfl
    · exact stCells_one ts u h
theorem step_info : (Try.prog.info? 73).map (fun i => (i.zero, i.size, i.bytes)) = some (some (.agg #[.int .i64 0, .int .i64 0, .int .i64 0, .int .i64 0]), 4, 32) := by kernel_rfl
/-- a row of steps of one's own -/
def OwnS (B : Nat) (v : Value) (l : List Stp) (w : World) : Prop := w.ownsRow B 73 4 v l.length (stCells l)
theorem OwnS.nil (B : Nat) (w : World) : OwnS B (.slice none 0 0) [] w := World.ownsRow_nil ..
theorem OwnS.made (w : World) : OwnS w.heap.size (.slice (some ⟨w.heap.size, 0, none⟩) 0 0) [] (w.alloc (.cells #[] 73)) :=
  World.ownsRow_made (e := 73) (size := 4) (base := w.heap.size) w #[] 0 (Nat.le_refl _) (by simp) (by simp)
theorem OwnS.shape {B : Nat} {v : Value} {l : List Stp} {w : World} (h : OwnS B v l w) : (v = .slice none 0 0 ∧ l = []) ∨ ∃ g c, v = .slice (some ⟨g, 0, none⟩) l.length c ∧ B ≤ g ∧ g < w.heap.size ∧ l.length ≤ c ∧ c ≤ maxLen := by
  rcases h.2 with ⟨rfl, hz⟩ | ⟨g, cap, cur, rfl, e2, e3, e4, e5, e6, e7⟩
  · exact .inl ⟨rfl, List.eq_nil_of_length_eq_zero hz⟩
  · exact .inr ⟨g, cap, rfl, e2, (Array.getElem?_eq_some_iff.1 e3).1, e4, e5⟩
/-- append of a row of steps in memory, at the operation -/
theorem wp_app_steps {ops : Array Oper} {rest : List Oper} {o : Oper} {a : Act} {Q : Exit → Act → World → Prop} {w : World} (hgd : o.guard = none) (s x : Operand)
    (ho : o.op = .call { callee := .builtin .append, args := #[s, x], argTypes := #[60, 60] }) (B : Nat) (v : Value) (acc l : List Stp) (g c : Nat) (hs : a.eval s = v) (hx : a.eval x = .slice (some ⟨g, 0, none⟩) l.length c)
    (hv : OwnS B v acc w) (hB : B ≤ w.heap.size) (hl : ∀ j u, (stCells l)[j]? = some u → w.cell? ⟨g, j, none⟩ = some u) (h1 : acc.length ≤ 100000) (h2 : l.length ≤ 100000)
    (h : ∀ v' w', OwnS B v' (acc ++ l) w' → w.grownBy w' v.ownBlock → (v' = .slice none 0 0 → v = .slice none 0 0 ∧ l.length = 0) → wpList Try.prog ops Q rest (a.put o.dst v') w') :
    wpList Try.prog ops Q (o :: rest) a w := by
  obtain ⟨ri, hi, hz, hs1, hs2⟩ := info_parts step_info
  refine wpList_append_own_at _ hgd s x 60 ho B 73 ri _ 4 32 Try.underlying60 hi hz hs1 hs2 rfl (by omega) v acc.length _ hs hv ⟨g, 0, none⟩ l.length c (stCells l) hx (stCells_len l) (fun j u hj => ?_) (stCells_one l) (by simp only [maxLen]; omega) (by omega) hB ?_
  · have e : Addr.add ⟨g, 0, none⟩ j = ⟨g, j, none⟩ := by unfold Addr.add; split <;> simp_all
    rw [e]
    exact hl j u hj
  · intro v2 w3 hown hgrow hnil _
    exact h v2 w3 (by unfold OwnS; rw [List.length_append, stCells_append]; exact hown) hgrow (fun e => (hnil.1 e))
theorem OwnS.below {B : Nat} {v : Value} {l : List Stp} {w w' : World} (h : OwnS B v l w) (hb : Below w.heap.size w w') : OwnS B v l w' :=
  World.ownsRow.kept (row := none) h ⟨hb.os, hb.tape, hb.output, hb.size, fun k hk _ => hb.block k hk⟩ (by cases v.ownBlock <;> simp)
theorem OwnS.grown {B : Nat} {v : Value} {l : List Stp} {w0 w w' : World} (h : OwnS B v l w) (hb : Below w0.heap.size w0 w) (hg : w.grownBy w' v.ownBlock) (hB : w0.heap.size ≤ B) : Below w0.heap.size w0 w' :=
  ⟨hg.os.trans hb.os, hg.tape.trans hb.tape, hg.output.trans hb.output, Nat.le_trans hb.size hg.size, fun k hk => by
    rw [hg.block k (Nat.lt_of_lt_of_le hk hb.size) (fun e => by have := (World.ownsRow.lt h k e.symm).1; omega), hb.block k hk]⟩
/-- append of one new step, at the operation -/
theorem wp_app_step {ops : Array Oper} {rest : List Oper} {o : Oper} {a : Act} {Q : Exit → Act → World → Prop} {w : World} (hgd : o.guard = none) (s x : Operand)
    (ho : o.op = .call { callee := .builtin .append, args := #[s, x], argTypes := #[60, 60] }) (B : Nat) (v : Value) (acc : List Stp) (t : Stp) (c : Nat) (hs : a.eval s = v) (hx : a.eval x = .slice (some ⟨w.heap.size, 0, none⟩) 1 c)
    (hv : OwnS B v acc w) (hB : B ≤ w.heap.size) (h1 : acc.length ≤ 100000)
    (h : ∀ v' w', OwnS B v' (acc ++ [t]) w' → (w.alloc (.cells #[.int .i64 t.p, .int .i64 t.e, .int .i64 t.q, .int .i64 t.f] 73)).grownBy w' v.ownBlock → v' ≠ .slice none 0 0 → wpList Try.prog ops Q rest (a.put o.dst v') w') :
    wpList Try.prog ops Q (o :: rest) a (w.alloc (.cells #[.int .i64 t.p, .int .i64 t.e, .int .i64 t.q, .int .i64 t.f] 73)) := by
  refine wp_app_steps hgd s x ho B v acc [t] w.heap.size c hs hx (hv.below (below_alloc _ _)) (by simp; omega) (fun j u hj => ?_) h1 (by simp) (fun v' w' h1 h2 h3 => h v' w' h1 h2 (fun e => by have := (h3 e).2; simp at this))
  rw [World.cell?_alloc_new]
  match j, hj with
  | 0, hj => simpa [stCells, Stp.cells] using hj
  | 1, hj => simpa [stCells, Stp.cells] using hj
  | 2, hj => simpa [stCells, Stp.cells] using hj
  | 3, hj => simpa [stCells, Stp.cells] using hj
  | (n + 4), hj => simp [stCells, Stp.cells] at hj
def fm (f : Nat → List Stp) : Nat → List Stp
  | 0 => []
  | n + 1 => fm f n ++ f n
theorem fm_len {f : Nat → List Stp} {b : Nat} (h : ∀ x, (f x).length ≤ b) : ∀ n, (fm f n).length ≤ n * b
  | 0 => by simp [fm]
  | n + 1 => by
    rw [fm, List.length_append, Nat.succ_mul]
    have := fm_len h n
    have := h n
    omega
def edge? (s : Sy) (j m : Nat) : Option Ed := (s.procs[j]?).bind fun q => q.edges[m]?
theorem edge?_some {s : Sy} {j m : Nat} (hj : j < s.procs.length) (hm : m < s.procs[j].edges.length) : edge? s j m = some s.procs[j].edges[m] := by simp [edge?, hj, hm]
def lenE (s : Sy) (j : Nat) : Nat := ((s.procs[j]?).map fun q => q.edges.length).getD 0
theorem lenE_at {s : Sy} {j : Nat} (hj : j < s.procs.length) : lenE s j = s.procs[j].edges.length := by simp [lenE, hj]
/-- a step with a partner -/
def candE (ls vs : List Int) (i k : Nat) (c : Int) (j m : Nat) (e : Ed) : List Stp := if j ≠ i ∧ e.sync = -c ∧ rdy ls vs j e = true then [⟨i, k, j, m⟩] else []
def cand (s : Sy) (ls vs : List Int) (i k : Nat) (c : Int) (j m : Nat) : List Stp := match edge? s j m with
  | some e => candE ls vs i k c j m e
  | none => []
def par (s : Sy) (ls vs : List Int) (i k : Nat) (c : Int) (n : Nat) : List Stp := fm (fun j => fm (cand s ls vs i k c j) (lenE s j)) n
def oneE (s : Sy) (ls vs : List Int) (i k : Nat) (e : Ed) : List Stp := if e.sync < 0 ∨ rdy ls vs i e = false then [] else if e.sync = 0 then [⟨i, k, -1, -1⟩] else par s ls vs i k e.sync s.procs.length
def one (s : Sy) (ls vs : List Int) (i k : Nat) : List Stp := match edge? s i k with
  | some e => oneE s ls vs i k e
  | none => []
def steps (s : Sy) (ls vs : List Int) (n : Nat) : List Stp := fm (fun i => fm (one s ls vs i) (lenE s i)) n
theorem cand_len (s : Sy) (ls vs : List Int) (i k : Nat) (c : Int) (j m : Nat) : (cand s ls vs i k c j m).length ≤ 1 := by
  unfold cand candE
  split
  · split <;> simp
  · simp
theorem lenE_le {s : Sy} (h : okSy s = true) (j : Nat) : lenE s j ≤ 6 := by
  by_cases hj : j < s.procs.length
  · rw [lenE_at hj]
    exact (okP_locs ((okSy_procs h).2 _ (List.getElem_mem hj))).2.2.1
  · simp [lenE, hj]
theorem parJ_len (s : Sy) (ls vs : List Int) (i k : Nat) (c : Int) (j n : Nat) : (fm (cand s ls vs i k c j) n).length ≤ n := by
  have := fm_len (fun m => cand_len s ls vs i k c j m) n
  omega
theorem par_len {s : Sy} (h : okSy s = true) (ls vs : List Int) (i k : Nat) (c : Int) (n : Nat) : (par s ls vs i k c n).length ≤ n * 6 :=
  fm_len (fun j => Nat.le_trans (parJ_len s ls vs i k c j _) (lenE_le h j)) n
theorem one_len {s : Sy} (h : okSy s = true) (ls vs : List Int) (i k : Nat) : (one s ls vs i k).length ≤ 18 := by
  unfold one oneE
  split
  · split
    · simp
    · split
      · simp
      · rename_i e _ _ _
        have := par_len h ls vs i k e.sync s.procs.length
        have := (okSy_procs h).1
        omega
  · simp
theorem stE_len {s : Sy} (h : okSy s = true) (ls vs : List Int) (i m : Nat) : (fm (one s ls vs i) m).length ≤ m * 18 := fm_len (fun k => one_len h ls vs i k) m
theorem steps_len {s : Sy} (h : okSy s = true) (ls vs : List Int) (n : Nat) : (steps s ls vs n).length ≤ n * 108 :=
  fm_len (fun i => by have := stE_len h ls vs i (lenE s i); have := lenE_le h i; omega) n
end Sys
end Go.Proofs.Ytchlpeflfiecdaa
namespace Go.Proofs.Ytchlpeflfiecdaa
open Go.RowKit
set_option linter.unusedVariables false
set_option linter.unusedSimpArgs false
namespace Sys

theorem stCells_at : ∀ (l : List Stp) (i : Nat) (h : i < l.length), (stCells l)[i * 4]? = some (.int .i64 l[i].p) ∧ (stCells l)[i * 4 + 1]? = some (.int .i64 l[i].e) ∧ (stCells l)[i * 4 + 2]? = some (.int .i64 l[i].q) ∧ (stCells l)[i * 4 + 3]? = some (.int .i64 l[i].f)
  | [], i, h => by simp at h
  | t :: ts, 0, h => by simp [stCells, Stp.cells]
  | t :: ts, i + 1, h => by
    have := stCells_at ts i (by simpa using h)
    have e : (i + 1) * 4 = i * 4 + 4 := by omega
    simp only [stCells, Stp.cells, List.cons_append, List.nil_append, e, List.getElem_cons_succ]
    simpa [show i * 4 + 4 + 1 = (i * 4 + 1) + 4 by omega, show i * 4 + 4 + 2 = (i * 4 + 2) + 4 by omega, show i * 4 + 4 + 3 = (i * 4 + 3) + 4 by omega] using this
/-- a row of steps in memory -/
def StIn (w : World) (l : List Stp) (a : Option Addr) : Prop := l = [] ∨ ∃ g, a = some ⟨g, 0, none⟩ ∧ g < w.heap.size ∧ ∀ j u, (stCells l)[j]? = some u → w.cell? ⟨g, j, none⟩ = some u
theorem StIn.below {w w' : World} {l : List Stp} {a : Option Addr} (h : StIn w l a) (hb : Below w.heap.size w w') : StIn w' l a := by
  rcases h with h | ⟨g, h1, h2, h3⟩
  · exact .inl h
  · exact .inr ⟨g, h1, Nat.lt_of_lt_of_le h2 hb.size, fun j u hj => (World.cell?_of_block (w := w) (a := ⟨g, j, none⟩) (hb.block g h2)).trans (h3 j u hj)⟩
set_option maxHeartbeats 1000000 in
theorem eqStep_any (t : Stp) (w : World) : Calls Try.prog 75 #[.agg t.cells.toArray, .agg t.cells.toArray] w (Ret (.bool true) w) := by
  obtain ⟨p, e, q, f⟩ := t
  have h : ∀ x : Int, (x != x) = false := fun x => by simp
  show Calls _ _ #[.agg #[.int .i64 p, .int .i64 e, .int .i64 q, .int .i64 f], .agg #[.int .i64 p, .int .i64 e, .int .i64 q, .int .i64 f]] _ _
  go_enter Try.func75, Try.ntmps75
  go_wp2_with fail
  go_ret
  exact Ret.mk rfl (by repeat (first | exact Below.refl _ _ | assumption | refine below_a ?_ _ | refine below_o ?_ _ | refine below_d ?_ | refine below_n ?_ _ | refine below_s ?_ (by first | (simp; done) | (simp; omega) | omega) _))

set_option maxRecDepth 100000 in
set_option maxHeartbeats 2000000 in
theorem eqStepS_any (l : List Stp) (w : World) (a a' : Option Addr) (c c' : Nat) (h : StIn w l a) (h' : StIn w l a') (hc : l.length ≤ c) (hc2 : c ≤ maxLen) (hc' : l.length ≤ c') (hc2' : c' ≤ maxLen) :
    Calls Try.prog 34 #[.slice a l.length c, .slice a' l.length c'] w (Ret (.bool true) w) := by
  unfold maxLen at hc2 hc2'
  go_enter Try.func34, Try.ntmps34
  go_wp2_with fail
  go_loopw [5] (fun i wr => ∃ j : Nat, j ≤ l.length ∧ i = .int .i64 j ∧ Hid (Below w.heap.size w wr)) (fun i _ => l.length - (intOf i).toNat)
  case atStart => exact ⟨0, Nat.zero_le _, rfl, hid (Below.refl _ _)⟩
  case round =>
    obtain ⟨j, hj, rfl, B⟩ := hrel
    by_cases hlt : j < l.length
    · have hlt2 : (j : Int) < (l.length : Int) := by omega
      obtain ⟨k0, k1, k2, k3⟩ := stCells_at l j hlt
      have h0 := h.below B.out
      have h1 := h'.below B.out
      have HEQ := hid (fun W => eqStep_any l[j] W)
      rcases h0 with h0 | ⟨g, rfl, hg, hcl⟩
      · subst h0; simp at hlt
      rcases h1 with h1 | ⟨g', rfl, hg', hcl'⟩
      · subst h1; simp at hlt
      have x0 := hcl _ _ k0
      have x1 := hcl _ _ k1
      have x2 := hcl _ _ k2
      have x3 := hcl _ _ k3
      have y0 := hcl' _ _ k0
      have y1 := hcl' _ _ k1
      have y2 := hcl' _ _ k2
      have y3 := hcl' _ _ k3
      generalize l[j] = t at *
      clear k0 k1 k2 k3 hcl hcl'
      go_wp2_with fail
      refine wp_region_over (by kernel_rfl) (by kernel_rfl) ?_; (repeat (go_big_quiet_step ((go_at_call 75; exact Calls.over (HEQ.out _))))); refine wpQuiet_nil ?_; rintro _ ⟨xq, rfl⟩
      have B2 := hid (show Below w.heap.size w _ from below_then B.out (over_below _ xq) B.out.size)
      go_wp2_with fail
      go_roundw
      case rel => exact ⟨j + 1, by omega, by go_num, B2⟩
      case measure => simp [intOf]; omega
    · have hlt2 : ¬ ((j : Int) < (l.length : Int)) := by omega
      go_wp2_with fail
      go_ret
      exact Ret.mk rfl B.out
end Sys
end Go.Proofs.Ytchlpeflfiecdaa
namespace Go.Proofs.Ytchlpeflfiecdaa
open Go.RowKit
set_option linter.unusedVariables false
set_option linter.unusedSimpArgs false
namespace Sys

def MkSt (n : Nat) (k : Int) (g : Nat) (w : World) (e : Ending) (w' : World) : Prop := e = .returned (.int .i64 (k + (n * 4 : Nat))) ∧ Row w' g (n * 4) (fun i => .int .i64 (k + (i : Int))) ∧ Only [g] w w'
set_option maxRecDepth 100000 in
set_option maxHeartbeats 2000000 in
theorem markStepS_any (n : Nat) (w : World) (g c : Nat) (k : Int) (f0 : Nat → Value) (hr : Row w g (n * 4) f0) (hc : n ≤ c) (hc2 : c ≤ maxLen) (hn : n ≤ 1000) (hk : 0 ≤ k) (hk2 : k ≤ 1000000) :
    Calls Try.prog 37 #[.slice (some ⟨g, 0, none⟩) n c, .int .i64 k] w (MkSt n k g w) := by
  unfold maxLen at hc2
  go_enter Try.func37, Try.ntmps37
  go_wp2_with fail
  go_loopw [1, 5] (fun q i wr => ∃ (j : Nat) (f : Nat → Value), j ≤ n ∧ q = .int .i64 (k + (j * 4 : Nat)) ∧ i = .int .i64 j ∧ Row wr g (n * 4) f ∧ Hid (∀ i, i < j * 4 → f i = .int .i64 (k + (i : Int))) ∧ Only [g] w wr) (fun _ i _ => n - (intOf i).toNat)
  case atStart => exact ⟨0, f0, Nat.zero_le _, by simp, rfl, hr, hid (by omega), Only.refl _ _⟩
  case round =>
    obtain ⟨j, f, hj, rfl, rfl, hrow, hf, ho⟩ := hrel
    by_cases hlt : j < n
    · have r0 := hrow.2.1 (j * 4) (by omega)
      have r1 := hrow.2.1 (j * 4 + 1) (by omega)
      have r2 := hrow.2.1 (j * 4 + 2) (by omega)
      have r3 := hrow.2.1 (j * 4 + 3) (by omega)
      have rz := hrow.2.2
      have rl := hrow.1
      have HROW := hid hrow
      have HO := hid ho
      clear hrow ho
      have hlt2 : (j : Int) < (n : Int) := by omega
      go_wp2_with fail
      go_roundw
      case rel =>
        refine ⟨j + 1, _, by omega, by congr 1; push_cast; omega, by go_num, (((HROW.out.set (by omega) _).set (by omega) _).set (by omega) _).set (by omega) _, hid (fun i hi => ?_), (((HO.out.set (by simp) _).set (by simp) _).set (by simp) _).set (by simp) _⟩
        show (if i = j * 4 + 3 then _ else if i = j * 4 + 2 then _ else if i = j * 4 + 1 then _ else if i = j * 4 then _ else f i) = _
        split
        · rename_i e; subst e; congr 1; push_cast; omega
        · split
          · rename_i e; subst e; congr 1; push_cast; omega
          · split
            · rename_i e; subst e; congr 1; push_cast; omega
            · split
              · rename_i e; subst e; congr 1
              · exact hf.out i (by omega)
      case measure => simp [intOf]; omega
    · have hlt2 : ¬ ((j : Int) < (n : Int)) := by omega
      have hjl : j = n := by omega
      subst hjl
      have hfin := hid (show MkSt j k g w (.returned (.int .i64 (k + (j * 4 : Nat)))) wr from ⟨rfl, hrow.congr fun i hi => hf.out i hi, ho⟩)
      clear hrow ho
      go_wp2_with fail
      go_ret
      exact hfin.out
theorem cellv {x y : Int} (h : x = y) : some (Value.int .i64 x) = some (Value.int .i64 y) := by rw [h]
set_option maxRecDepth 100000 in
set_option maxHeartbeats 2000000 in
theorem heldStepS_any (n : Nat) (w : World) (g c : Nat) (k : Int) (hr : Row w g (n * 4) (fun i => .int .i64 (k + (i : Int)))) (hc : n ≤ c) (hc2 : c ≤ maxLen) (hn : n ≤ 1000) (hk : 0 ≤ k) (hk2 : k ≤ 1000000) :
    Calls Try.prog 38 #[.slice (some ⟨g, 0, none⟩) n c, .int .i64 k] w (Ret (.int .i64 (k + (n * 4 : Nat))) w) := by
  unfold maxLen at hc2
  go_enter Try.func38, Try.ntmps38
  go_wp2_with fail
  go_loopw [1, 5] (fun q i wr => ∃ (j : Nat), j ≤ n ∧ q = .int .i64 (k + (j * 4 : Nat)) ∧ i = .int .i64 j ∧ Hid (Below w.heap.size w wr)) (fun _ i _ => n - (intOf i).toNat)
  case atStart => exact ⟨0, Nat.zero_le _, by simp, rfl, hid (Below.refl _ _)⟩
  case round =>
    obtain ⟨j, hj, rfl, rfl, B⟩ := hrel
    by_cases hlt : j < n
    · have hrow := Row.below hr B.out
      have r0 : wr.cell? ⟨g, j * 4, none⟩ = some (.int .i64 (k + (j : Int) * 4)) := (hrow.2.1 (j * 4) (by omega)).trans (cellv (by omega))
      have r1 : wr.cell? ⟨g, j * 4 + 1, none⟩ = some (.int .i64 (k + (j : Int) * 4 + 1)) := (hrow.2.1 (j * 4 + 1) (by omega)).trans (cellv (by omega))
      have r2 : wr.cell? ⟨g, j * 4 + 2, none⟩ = some (.int .i64 (k + (j : Int) * 4 + 1 + 1)) := (hrow.2.1 (j * 4 + 2) (by omega)).trans (cellv (by omega))
      have r3 : wr.cell? ⟨g, j * 4 + 3, none⟩ = some (.int .i64 (k + (j : Int) * 4 + 1 + 1 + 1)) := (hrow.2.1 (j * 4 + 3) (by omega)).trans (cellv (by omega))
      have rl := hrow.1
      clear hrow
      have hlt2 : (j : Int) < (n : Int) := by omega
      go_wp2_with fail
      go_roundw
      case rel => exact ⟨j + 1, by omega, by congr 1; push_cast; omega, by go_num, B⟩
      case measure => simp [intOf]; omega
    · have hlt2 : ¬ ((j : Int) < (n : Int)) := by omega
      have hjl : j = n := by omega
      subst hjl
      go_wp2_with fail
      go_ret
      exact Ret.mk (by first | rfl | (congr 1; push_cast; omega)) B.out
end Sys
end Go.Proofs.Ytchlpeflfiecdaa
