/- Which edges are ready; l3Ready of the reference, ready of the program. Conditions: those of each contract. -/
import Derived.Test.YtffadknollkgiaazStateV
import Derived.Test.YtffadknollkgiaazReachP
import Derived.Test.YtffadknollkgiaazEvalSpec
import Derived.Test.YtffadknollkgiaazEvalImpl
set_option linter.unusedVariables false
set_option linter.unusedSimpArgs false
namespace Go.Proofs.Ytffadknollkgiaa
open Go.RowKit
set_option linter.unusedVariables false
set_option linter.unusedSimpArgs false
namespace Sys

/-- is an edge of process i ready -/
def rdy (ls vs : List Int) (i : Nat) (e : Ed) : Bool := decide (e.src = ls.getD i 0) && decide (evalT (Expr.gOf vs) e.guard ≠ 0)
theorem okSt_facts {s : Sy} {ls vs : List Int} (h : State.okSt s ls vs = true) : okSy s = true ∧ ls.length = s.procs.length ∧ Expr.okVals vs = true := by
  rw [State.okSt, Bool.and_eq_true, State.hasB, Bool.and_eq_true, Bool.and_eq_true, decide_eq_true_eq] at h
  exact ⟨h.1, h.2.1, h.2.2.1⟩
theorem guard_ok {q : Pr} (h : okP q = true) {e : Ed} (he : e ∈ q.edges) : exprL.shape e.guard 6 = true ∧ -2 ≤ e.sync ∧ e.sync ≤ 2 := by
  rw [okP] at h
  simp only [Bool.and_eq_true, decide_eq_true_eq, List.all_eq_true] at h
  have := h.1 e he
  rw [Edge.okB, Bool.and_eq_true, Edge.okV, Bool.and_eq_true, Bool.and_eq_true, Bool.and_eq_true] at this
  obtain ⟨_, h1, h2, _⟩ := this
  simp only [decide_eq_true_eq] at h2
  exact ⟨by rw [Lang.valid, Bool.and_eq_true] at h1; exact h1.1, h2.1, h2.2⟩

set_option maxRecDepth 100000 in
set_option maxHeartbeats 4000000 in
theorem specReady_any (s : Sy) (ls vs : List Int) (i k : Nat) (hok : State.okSt s ls vs = true) (hi : i < s.procs.length) (hk : k < s.procs[i].edges.length) (w : World) (x y : Value) (hx : SyIn Any w s x) (hy : State.PairIn Any w ls vs y) :
    Calls Try.prog 82 #[x, y, .int .i64 i, .int .i64 k] w (Ret (.bool (rdy ls vs i s.procs[i].edges[k])) w) := by
  obtain ⟨o1, o2, o3⟩ := okSt_facts hok
  obtain ⟨hgs, _⟩ := guard_ok ((okSy_procs o1).2 _ (List.getElem_mem hi)) (List.getElem_mem hk)
  obtain ⟨a, c, b, d, rfl, hc, hc2, hin, hd, hd2, hp⟩ := hx
  obtain ⟨a', b', c', d', rfl, hls, hvs, hc', hc2', hd', hd2'⟩ := hy
  have HVS := hid (Expr.okVals_vals o3 hvs)
  have h3 : vs.length = 3 := HVS.out.2.1
  rw [h3] at hd' ⊢
  obtain ⟨bb, ob, rfl, _, hb3, ac, cc, ⟨e0, e1⟩, hpr⟩ := SeqIn.at hp hi
  have hil : i < ls.length := by omega
  obtain ⟨bl, ol, rfl, hbl, _, l0⟩ := hls.1.at (Below.refl _ _) (show (ls.map (Value.int .i64))[i]? = some (.int .i64 (ls.getD i 0)) by rw [List.getElem?_map, List.getElem?_eq_getElem hil, List.getD_eq_getElem?_getD, List.getElem?_eq_getElem hil]; rfl)
  generalize s.procs[i] = q at *
  obtain ⟨_, _, e5, _, hc5, hc6, he5⟩ := hpr
  cases e5
  obtain ⟨be, oe, rfl, _, hbe, a1, c1, a2, c2, ⟨g0, g1, g2, g3, g4, g5, g6, g7, g8, g9⟩, hed⟩ := SeqIn.at he5 hk
  have hk2 : (k : Int) < (q.edges.length : Int) := by omega
  have hi2 : (i : Int) < (s.procs.length : Int) := by omega
  have hil2 : (i : Int) < (ls.length : Int) := by omega
  generalize q.edges[k] = e at *
  obtain ⟨_, _, _, _, e6, _, _, _, _, t1, t2⟩ := hed
  cases e6
  have HEV := hid (fun (W : World) (M : Below w.heap.size w W) => Expr.sv_any e.guard 6 W (.agg #[.int .i64 e.guard.kind, .int .i64 e.guard.val, .slice a1 e.guard.kids.length c1]) b' vs d' hgs (TrIn_below M t1) (HVS.out.below M) hd' hd2')
  have HR := hid (show rdy ls vs i e = (decide (e.src = ls.getD i 0) && decide (evalT (Expr.gOf vs) e.guard ≠ 0)) from rfl)
  generalize rdy ls vs i e = r at *
  generalize evalT (Expr.gOf vs) e.guard = v at *
  generalize ls.getD i 0 = loc at *
  generalize s.procs.length = np at *
  generalize ls.length = nl at *
  generalize q.edges.length = ne at *
  unfold maxLen at hc6 hd2 hc2' hd2'
  clear hgs o1 o2 o3 hok t1 t2 hp hls hvs he5 hin hc hc2 h3 hi hk hil HVS
  by_cases hs : e.src = loc
  · have hs2 : (e.src == loc) = true := by simp [hs]
    have HS := hid hs
    by_cases hv : v = 0
    · have E := hid (show r = false by rw [HR.out, hv]; simp)
      subst hv
      clear HR hs
      go_enter Try.func82, Try.ntmps82
      go_wp2_with fail
      obtain ⟨w1, hw1⟩ : ∃ w1 : World, Hid (w1 = (((w.alloc (.cells #[.slice a s.init.length c, .slice (some ⟨bb, ob, none⟩) np d] 36)).alloc (.cells #[.slice (some ⟨bl, ol, none⟩) nl c', .slice b' 3 d'] 50)).alloc (.cells #[.int .i64 e.src, .int .i64 e.dst, .int .i64 e.guard.kind, .int .i64 e.guard.val, .slice a1 e.guard.kids.length c1, .int .i64 e.var, .int .i64 e.val.kind, .int .i64 e.val.val, .slice a2 e.val.kids.length c2, .int .i64 e.sync] 27))) := ⟨_, hid rfl⟩
      have B1 := hid (show Below w.heap.size w w1 from by rw [hw1.out]; exact (by repeat (first | exact Below.refl _ _ | assumption | refine below_a ?_ _ | refine below_o ?_ _ | refine below_d ?_ | refine below_n ?_ _ | refine below_s ?_ (by first | (simp; done) | (simp; omega) | omega) _)))
      have XS := hid (show Box2 w1 (w.heap.size + 1) (.slice (some ⟨bl, ol, none⟩) nl c') (.slice b' 3 d') by rw [hw1.out]; exact box2_next (below_alloc _ _) (box2_at (by simp)))
      have XE := hid (show Box10 w1 (w.heap.size + 1 + 1) (.int .i64 e.src) (.int .i64 e.dst) (.int .i64 e.guard.kind) (.int .i64 e.guard.val) (.slice a1 e.guard.kids.length c1) (.int .i64 e.var) (.int .i64 e.val.kind) (.int .i64 e.val.val) (.slice a2 e.val.kids.length c2) (.int .i64 e.sync) by rw [hw1.out]; exact box10_at (by simp) ..)
      rw [← hw1.out]
      clear hw1 g0 g1 g2 g3 g4 g5 g6 g7 g8 g9 e0 e1
      have hbl1 : bl < w1.heap.size := by have := B1.out.size; omega
      have l1 := (B1.out.cell (p := ⟨bl, ol + i, none⟩) hbl).trans l0
      obtain ⟨s0, s1, s2, _⟩ := id XS.out
      obtain ⟨q0, ⟨u0, u1, u2, u3, u4, u5, u6, u7, u8, u9⟩, _⟩ := id XE.out
      clear l0
      refine wp_region_tail (C := fun wZ => ∃ xZ, wZ = World.over _ xZ) [0,1,2,3,4,5,6,7,8,9,10,11,12] [13,14,15,16] (16) (by kernel_rfl) (by kernel_rfl) (fun d _ _ _ _ h => by cases d <;> exact h) (bex (Below.refl _ _).drew) ?_; simp only [pick, List.getElem?_cons_succ, List.getElem?_cons_zero]; (repeat (go_big_quiet_step (fail))); refine wpQuiet_nil ?_; simp only [tailW]
      go_wp2_with fail
      refine (HEV.out _ (below_d B1.out)).mono ?_
      rintro _ w2 ⟨rfl, hb⟩
      have B2 := hid (show Below w1.heap.size w1 w2 from below_then (below_d (Below.refl _ _)) hb (by simp))
      have B3 := hid (below_then B1.out B2.out B1.out.size)
      clear hb
      go_wp2_with fail
      refine ⟨bex B2.out, ?_⟩
      go_wp2_with fail
      refine ⟨bex B2.out, ?_⟩
      go_wp2_with fail
      refine ⟨bex B2.out, ?_⟩
      go_wp2_with fail
      go_ret
      exact Ret.mk (bool_val (by rw [E.out]; try simp [hv])) B3.out
    · have E := hid (show r = true by rw [HR.out, hs]; simp [hv])
      have hv2 : (v != 0) = true := by simp [hv]
      clear HR hs
      go_enter Try.func82, Try.ntmps82
      go_wp2_with fail
      obtain ⟨w1, hw1⟩ : ∃ w1 : World, Hid (w1 = (((w.alloc (.cells #[.slice a s.init.length c, .slice (some ⟨bb, ob, none⟩) np d] 36)).alloc (.cells #[.slice (some ⟨bl, ol, none⟩) nl c', .slice b' 3 d'] 50)).alloc (.cells #[.int .i64 e.src, .int .i64 e.dst, .int .i64 e.guard.kind, .int .i64 e.guard.val, .slice a1 e.guard.kids.length c1, .int .i64 e.var, .int .i64 e.val.kind, .int .i64 e.val.val, .slice a2 e.val.kids.length c2, .int .i64 e.sync] 27))) := ⟨_, hid rfl⟩
      have B1 := hid (show Below w.heap.size w w1 from by rw [hw1.out]; exact (by repeat (first | exact Below.refl _ _ | assumption | refine below_a ?_ _ | refine below_o ?_ _ | refine below_d ?_ | refine below_n ?_ _ | refine below_s ?_ (by first | (simp; done) | (simp; omega) | omega) _)))
      have XS := hid (show Box2 w1 (w.heap.size + 1) (.slice (some ⟨bl, ol, none⟩) nl c') (.slice b' 3 d') by rw [hw1.out]; exact box2_next (below_alloc _ _) (box2_at (by simp)))
      have XE := hid (show Box10 w1 (w.heap.size + 1 + 1) (.int .i64 e.src) (.int .i64 e.dst) (.int .i64 e.guard.kind) (.int .i64 e.guard.val) (.slice a1 e.guard.kids.length c1) (.int .i64 e.var) (.int .i64 e.val.kind) (.int .i64 e.val.val) (.slice a2 e.val.kids.length c2) (.int .i64 e.sync) by rw [hw1.out]; exact box10_at (by simp) ..)
      rw [← hw1.out]
      clear hw1 g0 g1 g2 g3 g4 g5 g6 g7 g8 g9 e0 e1
      have hbl1 : bl < w1.heap.size := by have := B1.out.size; omega
      have l1 := (B1.out.cell (p := ⟨bl, ol + i, none⟩) hbl).trans l0
      obtain ⟨s0, s1, s2, _⟩ := id XS.out
      obtain ⟨q0, ⟨u0, u1, u2, u3, u4, u5, u6, u7, u8, u9⟩, _⟩ := id XE.out
      clear l0
      refine wp_region_tail (C := fun wZ => ∃ xZ, wZ = World.over _ xZ) [0,1,2,3,4,5,6,7,8,9,10,11,12] [13,14,15,16] (16) (by kernel_rfl) (by kernel_rfl) (fun d _ _ _ _ h => by cases d <;> exact h) (bex (Below.refl _ _).drew) ?_; simp only [pick, List.getElem?_cons_succ, List.getElem?_cons_zero]; (repeat (go_big_quiet_step (fail))); refine wpQuiet_nil ?_; simp only [tailW]
      go_wp2_with fail
      refine (HEV.out _ (below_d B1.out)).mono ?_
      rintro _ w2 ⟨rfl, hb⟩
      have B2 := hid (show Below w1.heap.size w1 w2 from below_then (below_d (Below.refl _ _)) hb (by simp))
      have B3 := hid (below_then B1.out B2.out B1.out.size)
      clear hb
      go_wp2_with fail
      refine ⟨bex B2.out, ?_⟩
      go_wp2_with fail
      refine ⟨bex B2.out, ?_⟩
      go_wp2_with fail
      refine ⟨bex B2.out, ?_⟩
      go_wp2_with fail
      go_ret
      exact Ret.mk (bool_val (by rw [E.out]; try simp [hv])) B3.out
  · have hs2 : (e.src == loc) = false := by simpa using hs
    have E := hid (show r = false by rw [HR.out]; simp [hs])
    clear HR hs
    go_enter Try.func82, Try.ntmps82
    go_wp2_with fail
    obtain ⟨w1, hw1⟩ : ∃ w1 : World, Hid (w1 = (((w.alloc (.cells #[.slice a s.init.length c, .slice (some ⟨bb, ob, none⟩) np d] 36)).alloc (.cells #[.slice (some ⟨bl, ol, none⟩) nl c', .slice b' 3 d'] 50)).alloc (.cells #[.int .i64 e.src, .int .i64 e.dst, .int .i64 e.guard.kind, .int .i64 e.guard.val, .slice a1 e.guard.kids.length c1, .int .i64 e.var, .int .i64 e.val.kind, .int .i64 e.val.val, .slice a2 e.val.kids.length c2, .int .i64 e.sync] 27))) := ⟨_, hid rfl⟩
    have B1 := hid (show Below w.heap.size w w1 from by rw [hw1.out]; exact (by repeat (first | exact Below.refl _ _ | assumption | refine below_a ?_ _ | refine below_o ?_ _ | refine below_d ?_ | refine below_n ?_ _ | refine below_s ?_ (by first | (simp; done) | (simp; omega) | omega) _)))
    have XS := hid (show Box2 w1 (w.heap.size + 1) (.slice (some ⟨bl, ol, none⟩) nl c') (.slice b' 3 d') by rw [hw1.out]; exact box2_next (below_alloc _ _) (box2_at (by simp)))
    have XE := hid (show Box10 w1 (w.heap.size + 1 + 1) (.int .i64 e.src) (.int .i64 e.dst) (.int .i64 e.guard.kind) (.int .i64 e.guard.val) (.slice a1 e.guard.kids.length c1) (.int .i64 e.var) (.int .i64 e.val.kind) (.int .i64 e.val.val) (.slice a2 e.val.kids.length c2) (.int .i64 e.sync) by rw [hw1.out]; exact box10_at (by simp) ..)
    rw [← hw1.out]
    clear hw1 g0 g1 g2 g3 g4 g5 g6 g7 g8 g9 e0 e1
    have hbl1 : bl < w1.heap.size := by have := B1.out.size; omega
    have l1 := (B1.out.cell (p := ⟨bl, ol + i, none⟩) hbl).trans l0
    obtain ⟨s0, s1, s2, _⟩ := id XS.out
    obtain ⟨q0, ⟨u0, u1, u2, u3, u4, u5, u6, u7, u8, u9⟩, _⟩ := id XE.out
    clear l0
    refine wp_region_tail (C := fun wZ => ∃ xZ, wZ = World.over _ xZ) [0,1,2,3,4,5,6,7,8,9,10,11,12] [13,14,15,16] (16) (by kernel_rfl) (by kernel_rfl) (fun d _ _ _ _ h => by cases d <;> exact h) (bex (Below.refl _ _).drew) ?_; simp only [pick, List.getElem?_cons_succ, List.getElem?_cons_zero]; (repeat (go_big_quiet_step (fail))); refine wpQuiet_nil ?_; simp only [tailW]
    go_wp2_with fail
    refine ⟨bex (below_d (Below.refl _ _)), ?_⟩
    go_wp2_with fail
    refine ⟨bex (below_d (Below.refl _ _)), ?_⟩
    go_wp2_with fail
    refine ⟨bex (below_d (Below.refl _ _)), ?_⟩
    go_wp2_with fail
    go_ret
    exact Ret.mk (bool_val (by rw [E.out])) (below_d B1.out)

set_option maxRecDepth 100000 in
set_option maxHeartbeats 4000000 in
theorem ready_any (s : Sy) (ls vs : List Int) (i k : Nat) (hok : State.okSt s ls vs = true) (hi : i < s.procs.length) (hk : k < s.procs[i].edges.length) (w : World) (x y : Value) (hx : SyIn Any w s x) (hy : State.PairIn Any w ls vs y) :
    Calls Try.prog 80 #[x, y, .int .i64 i, .int .i64 k] w (Ret (.bool (rdy ls vs i s.procs[i].edges[k])) w) := by
  obtain ⟨o1, o2, o3⟩ := okSt_facts hok
  obtain ⟨hgs, _⟩ := guard_ok ((okSy_procs o1).2 _ (List.getElem_mem hi)) (List.getElem_mem hk)
  obtain ⟨a, c, b, d, rfl, hc, hc2, hin, hd, hd2, hp⟩ := hx
  obtain ⟨a', b', c', d', rfl, hls, hvs, hc', hc2', hd', hd2'⟩ := hy
  have HVS := hid (Expr.okVals_vals o3 hvs)
  have h3 : vs.length = 3 := HVS.out.2.1
  rw [h3] at hd' ⊢
  obtain ⟨bb, ob, rfl, _, hb3, ac, cc, ⟨e0, e1⟩, hpr⟩ := SeqIn.at hp hi
  have hil : i < ls.length := by omega
  obtain ⟨bl, ol, rfl, hbl, _, l0⟩ := hls.1.at (Below.refl _ _) (show (ls.map (Value.int .i64))[i]? = some (.int .i64 (ls.getD i 0)) by rw [List.getElem?_map, List.getElem?_eq_getElem hil, List.getD_eq_getElem?_getD, List.getElem?_eq_getElem hil]; rfl)
  generalize s.procs[i] = q at *
  obtain ⟨_, _, e5, _, hc5, hc6, he5⟩ := hpr
  cases e5
  obtain ⟨be, oe, rfl, _, hbe, a1, c1, a2, c2, ⟨g0, g1, g2, g3, g4, g5, g6, g7, g8, g9⟩, hed⟩ := SeqIn.at he5 hk
  have hk2 : (k : Int) < (q.edges.length : Int) := by omega
  have hi2 : (i : Int) < (s.procs.length : Int) := by omega
  have hil2 : (i : Int) < (ls.length : Int) := by omega
  generalize q.edges[k] = e at *
  obtain ⟨_, _, _, _, e6, _, _, _, _, t1, t2⟩ := hed
  cases e6
  have HEV := hid (fun (W : World) (M : Below w.heap.size w W) => Expr.ev_any e.guard 6 W (.agg #[.int .i64 e.guard.kind, .int .i64 e.guard.val, .slice a1 e.guard.kids.length c1]) b' vs d' hgs (TrIn_below M t1) (HVS.out.below M) hd' hd2')
  have HR := hid (show rdy ls vs i e = (decide (e.src = ls.getD i 0) && decide (evalT (Expr.gOf vs) e.guard ≠ 0)) from rfl)
  generalize rdy ls vs i e = r at *
  generalize evalT (Expr.gOf vs) e.guard = v at *
  generalize ls.getD i 0 = loc at *
  generalize s.procs.length = np at *
  generalize ls.length = nl at *
  generalize q.edges.length = ne at *
  unfold maxLen at hc6 hd2 hc2' hd2'
  clear hgs o1 o2 o3 hok t1 t2 hp hls hvs he5 hin hc hc2 h3 hi hk hil HVS
  by_cases hs : e.src = loc
  · have hs2 : (loc == e.src) = true := by simp [hs]
    have HS := hid hs
    by_cases hv : v = 0
    · have E := hid (show r = false by rw [HR.out, hv]; simp)
      subst hv
      clear HR hs
      go_enter Try.func80, Try.ntmps80
      go_wp2_with fail
      obtain ⟨w1, hw1⟩ : ∃ w1 : World, Hid (w1 = (((w.alloc (.cells #[.slice a s.init.length c, .slice (some ⟨bb, ob, none⟩) np d] 36)).alloc (.cells #[.slice (some ⟨bl, ol, none⟩) nl c', .slice b' 3 d'] 50)).alloc (.cells #[.int .i64 e.src, .int .i64 e.dst, .int .i64 e.guard.kind, .int .i64 e.guard.val, .slice a1 e.guard.kids.length c1, .int .i64 e.var, .int .i64 e.val.kind, .int .i64 e.val.val, .slice a2 e.val.kids.length c2, .int .i64 e.sync] 27))) := ⟨_, hid rfl⟩
      have B1 := hid (show Below w.heap.size w w1 from by rw [hw1.out]; exact (by repeat (first | exact Below.refl _ _ | assumption | refine below_a ?_ _ | refine below_o ?_ _ | refine below_d ?_ | refine below_n ?_ _ | refine below_s ?_ (by first | (simp; done) | (simp; omega) | omega) _)))
      have XS := hid (show Box2 w1 (w.heap.size + 1) (.slice (some ⟨bl, ol, none⟩) nl c') (.slice b' 3 d') by rw [hw1.out]; exact box2_next (below_alloc _ _) (box2_at (by simp)))
      have XE := hid (show Box10 w1 (w.heap.size + 1 + 1) (.int .i64 e.src) (.int .i64 e.dst) (.int .i64 e.guard.kind) (.int .i64 e.guard.val) (.slice a1 e.guard.kids.length c1) (.int .i64 e.var) (.int .i64 e.val.kind) (.int .i64 e.val.val) (.slice a2 e.val.kids.length c2) (.int .i64 e.sync) by rw [hw1.out]; exact box10_at (by simp) ..)
      rw [← hw1.out]
      clear hw1 g0 g1 g2 g3 g4 g5 g6 g7 g8 g9 e0 e1
      have hbl1 : bl < w1.heap.size := by have := B1.out.size; omega
      have l1 := (B1.out.cell (p := ⟨bl, ol + i, none⟩) hbl).trans l0
      obtain ⟨s0, s1, s2, _⟩ := id XS.out
      obtain ⟨q0, ⟨u0, u1, u2, u3, u4, u5, u6, u7, u8, u9⟩, _⟩ := id XE.out
      clear l0
      refine wp_region_tail (C := fun wZ => ∃ xZ, wZ = World.over _ xZ) [0,1,2,3,4,5,6,7,8,9,10,11,12] [13,14,15,16] (16) (by kernel_rfl) (by kernel_rfl) (fun d _ _ _ _ h => by cases d <;> exact h) (bex (Below.refl _ _).drew) ?_; simp only [pick, List.getElem?_cons_succ, List.getElem?_cons_zero]; (repeat (go_big_quiet_step (fail))); refine wpQuiet_nil ?_; simp only [tailW]
      go_wp2_with fail
      refine (HEV.out _ (below_d B1.out)).mono ?_
      rintro _ w2 ⟨rfl, hb⟩
      have B2 := hid (show Below w1.heap.size w1 w2 from below_then (below_d (Below.refl _ _)) hb (by simp))
      have B3 := hid (below_then B1.out B2.out B1.out.size)
      clear hb
      go_wp2_with fail
      refine ⟨bex B2.out, ?_⟩
      go_wp2_with fail
      refine ⟨bex B2.out, ?_⟩
      go_wp2_with fail
      refine ⟨bex B2.out, ?_⟩
      go_wp2_with fail
      go_ret
      exact Ret.mk (bool_val (by rw [E.out]; try simp [hv])) B3.out
    · have E := hid (show r = true by rw [HR.out, hs]; simp [hv])
      have hv2 : (v != 0) = true := by simp [hv]
      clear HR hs
      go_enter Try.func80, Try.ntmps80
      go_wp2_with fail
      obtain ⟨w1, hw1⟩ : ∃ w1 : World, Hid (w1 = (((w.alloc (.cells #[.slice a s.init.length c, .slice (some ⟨bb, ob, none⟩) np d] 36)).alloc (.cells #[.slice (some ⟨bl, ol, none⟩) nl c', .slice b' 3 d'] 50)).alloc (.cells #[.int .i64 e.src, .int .i64 e.dst, .int .i64 e.guard.kind, .int .i64 e.guard.val, .slice a1 e.guard.kids.length c1, .int .i64 e.var, .int .i64 e.val.kind, .int .i64 e.val.val, .slice a2 e.val.kids.length c2, .int .i64 e.sync] 27))) := ⟨_, hid rfl⟩
      have B1 := hid (show Below w.heap.size w w1 from by rw [hw1.out]; exact (by repeat (first | exact Below.refl _ _ | assumption | refine below_a ?_ _ | refine below_o ?_ _ | refine below_d ?_ | refine below_n ?_ _ | refine below_s ?_ (by first | (simp; done) | (simp; omega) | omega) _)))
      have XS := hid (show Box2 w1 (w.heap.size + 1) (.slice (some ⟨bl, ol, none⟩) nl c') (.slice b' 3 d') by rw [hw1.out]; exact box2_next (below_alloc _ _) (box2_at (by simp)))
      have XE := hid (show Box10 w1 (w.heap.size + 1 + 1) (.int .i64 e.src) (.int .i64 e.dst) (.int .i64 e.guard.kind) (.int .i64 e.guard.val) (.slice a1 e.guard.kids.length c1) (.int .i64 e.var) (.int .i64 e.val.kind) (.int .i64 e.val.val) (.slice a2 e.val.kids.length c2) (.int .i64 e.sync) by rw [hw1.out]; exact box10_at (by simp) ..)
      rw [← hw1.out]
      clear hw1 g0 g1 g2 g3 g4 g5 g6 g7 g8 g9 e0 e1
      have hbl1 : bl < w1.heap.size := by have := B1.out.size; omega
      have l1 := (B1.out.cell (p := ⟨bl, ol + i, none⟩) hbl).trans l0
      obtain ⟨s0, s1, s2, _⟩ := id XS.out
      obtain ⟨q0, ⟨u0, u1, u2, u3, u4, u5, u6, u7, u8, u9⟩, _⟩ := id XE.out
      clear l0
      refine wp_region_tail (C := fun wZ => ∃ xZ, wZ = World.over _ xZ) [0,1,2,3,4,5,6,7,8,9,10,11,12] [13,14,15,16] (16) (by kernel_rfl) (by kernel_rfl) (fun d _ _ _ _ h => by cases d <;> exact h) (bex (Below.refl _ _).drew) ?_; simp only [pick, List.getElem?_cons_succ, List.getElem?_cons_zero]; (repeat (go_big_quiet_step (fail))); refine wpQuiet_nil ?_; simp only [tailW]
      go_wp2_with fail
      refine (HEV.out _ (below_d B1.out)).mono ?_
      rintro _ w2 ⟨rfl, hb⟩
      have B2 := hid (show Below w1.heap.size w1 w2 from below_then (below_d (Below.refl _ _)) hb (by simp))
      have B3 := hid (below_then B1.out B2.out B1.out.size)
      clear hb
      go_wp2_with fail
      refine ⟨bex B2.out, ?_⟩
      go_wp2_with fail
      refine ⟨bex B2.out, ?_⟩
      go_wp2_with fail
      refine ⟨bex B2.out, ?_⟩
      go_wp2_with fail
      go_ret
      exact Ret.mk (bool_val (by rw [E.out]; try simp [hv])) B3.out
  · have hs2 : (loc == e.src) = false := by simpa using fun h : loc = e.src => hs h.symm
    have E := hid (show r = false by rw [HR.out]; simp [hs])
    clear HR hs
    go_enter Try.func80, Try.ntmps80
    go_wp2_with fail
    obtain ⟨w1, hw1⟩ : ∃ w1 : World, Hid (w1 = (((w.alloc (.cells #[.slice a s.init.length c, .slice (some ⟨bb, ob, none⟩) np d] 36)).alloc (.cells #[.slice (some ⟨bl, ol, none⟩) nl c', .slice b' 3 d'] 50)).alloc (.cells #[.int .i64 e.src, .int .i64 e.dst, .int .i64 e.guard.kind, .int .i64 e.guard.val, .slice a1 e.guard.kids.length c1, .int .i64 e.var, .int .i64 e.val.kind, .int .i64 e.val.val, .slice a2 e.val.kids.length c2, .int .i64 e.sync] 27))) := ⟨_, hid rfl⟩
    have B1 := hid (show Below w.heap.size w w1 from by rw [hw1.out]; exact (by repeat (first | exact Below.refl _ _ | assumption | refine below_a ?_ _ | refine below_o ?_ _ | refine below_d ?_ | refine below_n ?_ _ | refine below_s ?_ (by first | (simp; done) | (simp; omega) | omega) _)))
    have XS := hid (show Box2 w1 (w.heap.size + 1) (.slice (some ⟨bl, ol, none⟩) nl c') (.slice b' 3 d') by rw [hw1.out]; exact box2_next (below_alloc _ _) (box2_at (by simp)))
    have XE := hid (show Box10 w1 (w.heap.size + 1 + 1) (.int .i64 e.src) (.int .i64 e.dst) (.int .i64 e.guard.kind) (.int .i64 e.guard.val) (.slice a1 e.guard.kids.length c1) (.int .i64 e.var) (.int .i64 e.val.kind) (.int .i64 e.val.val) (.slice a2 e.val.kids.length c2) (.int .i64 e.sync) by rw [hw1.out]; exact box10_at (by simp) ..)
    rw [← hw1.out]
    clear hw1 g0 g1 g2 g3 g4 g5 g6 g7 g8 g9 e0 e1
    have hbl1 : bl < w1.heap.size := by have := B1.out.size; omega
    have l1 := (B1.out.cell (p := ⟨bl, ol + i, none⟩) hbl).trans l0
    obtain ⟨s0, s1, s2, _⟩ := id XS.out
    obtain ⟨q0, ⟨u0, u1, u2, u3, u4, u5, u6, u7, u8, u9⟩, _⟩ := id XE.out
    clear l0
    refine wp_region_tail (C := fun wZ => ∃ xZ, wZ = World.over _ xZ) [0,1,2,3,4,5,6,7,8,9,10,11,12] [13,14,15,16] (16) (by kernel_rfl) (by kernel_rfl) (fun d _ _ _ _ h => by cases d <;> exact h) (bex (Below.refl _ _).drew) ?_; simp only [pick, List.getElem?_cons_succ, List.getElem?_cons_zero]; (repeat (go_big_quiet_step (fail))); refine wpQuiet_nil ?_; simp only [tailW]
    go_wp2_with fail
    refine ⟨bex (below_d (Below.refl _ _)), ?_⟩
    go_wp2_with fail
    refine ⟨bex (below_d (Below.refl _ _)), ?_⟩
    go_wp2_with fail
    refine ⟨bex (below_d (Below.refl _ _)), ?_⟩
    go_wp2_with fail
    go_ret
    exact Ret.mk (bool_val (by rw [E.out])) (below_d B1.out)

end Sys
end Go.Proofs.Ytffadknollkgiaa
