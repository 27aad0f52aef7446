/- The laws' wpReady: whether an edge is ready. Conditions: those of the contract. -/
import Derived.Test.YtffadknollkgiaazEvalX
import Derived.Test.YtffadknollkgiaazReadyV
import Derived.Test.YtffadknollkgiaazProcsApp
set_option linter.unusedVariables false
set_option linter.unusedSimpArgs false
namespace Go.Proofs.Ytffadknollkgiaa
open Go.RowKit
open Go.Proofs.Ytffadknollkgiaa.Sys
set_option linter.unusedVariables false
set_option linter.unusedSimpArgs false

theorem guard_valid {q : Pr} (h : okP q = true) {e : Ed} (he : e ∈ q.edges) : exprL.valid e.guard = true := by
  simp only [okP, Bool.and_eq_true, List.all_eq_true] at h
  have h1 := h.1 e he
  simp only [Edge.okB, Edge.okV, Bool.and_eq_true] at h1
  exact h1.2.1

set_option maxRecDepth 100000 in
set_option maxHeartbeats 4000000 in
theorem wpReady_any (s : Sy) (ls vs : List Int) (i k : Nat) (hok : State.okSt s ls vs = true) (hi : i < s.procs.length) (hk : k < s.procs[i].edges.length) (w : World) (x y : Value) (hx : SyIn Any w s x) (hy : State.PairIn Any w ls vs y) :
    Calls Try.prog 35 #[x, y, .int .i64 i, .int .i64 k] w (Ret (.bool (rdy ls vs i s.procs[i].edges[k])) w) := by
  obtain ⟨o1, o2, o3⟩ := okSt_facts hok
  have hgv := guard_valid ((okSy_procs o1).2 _ (List.getElem_mem hi)) (List.getElem_mem hk)
  obtain ⟨a, c, b, d, rfl, hc, hc2, hin, hd, hd2, hp⟩ := hx
  obtain ⟨a', b', c', d', rfl, hls, hvs, hc', hc2', hd', hd2'⟩ := hy
  obtain ⟨bb, ob, rfl, _, hb3, ac, cc, ⟨e0, e1⟩, hpr⟩ := SeqIn.at hp hi
  have hil : i < ls.length := by omega
  obtain ⟨bl, ol, rfl, hbl, _, l0⟩ := hls.1.at (Below.refl _ _) (show (ls.map (Value.int .i64))[i]? = some (.int .i64 (ls.getD i 0)) by rw [List.getElem?_map, List.getElem?_eq_getElem hil, List.getD_eq_getElem?_getD, List.getElem?_eq_getElem hil]; rfl)
  generalize s.procs[i] = q at *
  obtain ⟨_, _, e5, _, hc5, hc6, he5⟩ := hpr
  cases e5
  obtain ⟨be, oe, rfl, _, hbe, a1, c1, a2, c2, ⟨g0, g1, g2, g3, g4, g5, g6, g7, g8, g9⟩, hed⟩ := SeqIn.at he5 hk
  have hk2 : (k : Int) < (q.edges.length : Int) := by omega
  have hi2 : (i : Int) < (s.procs.length : Int) := by omega
  have hil2 : (i : Int) < (ls.length : Int) := by omega
  generalize q.edges[k] = e at *
  obtain ⟨_, _, _, _, e6, _, _, _, _, t1, t2⟩ := hed
  cases e6
  have HEV := hid (fun (W : World) (M : Below w.heap.size w W) => by
    have h := Expr.eval_any e.guard vs W _ b' d' (TrIn_below M t1) (hvs.below M) hd' hd2'
    have e1 : Expr.evalOk e.guard vs = true := by rw [Expr.evalOk, hgv, o3]; rfl
    have e2 : Expr.evalV e.guard vs = evalT (Expr.gOf vs) e.guard := by rw [Expr.evalV, if_pos e1]
    rw [e1, e2] at h
    exact h)
  have HR := hid (show rdy ls vs i e = (decide (e.src = ls.getD i 0) && decide (evalT (Expr.gOf vs) e.guard ≠ 0)) from rfl)
  generalize rdy ls vs i e = r at *
  generalize evalT (Expr.gOf vs) e.guard = v at *
  generalize ls.getD i 0 = loc at *
  unfold maxLen at hc6 hd2 hc2' hd2'
  clear hgv o1 o2 o3 hok t1 t2 hp hls hvs he5 hin hc hc2 hk hil
  have HK := hid (And.intro hi2 hk2)
  go_enter Try.func35, Try.ntmps35
  go_upto_region 2 with fail
  refine wp_gen (fun W => Below w.heap.size w W ∧ BoxP W (w.heap.size + 1) (.slice (some ⟨bl, ol, none⟩) ls.length c') (.slice b' vs.length d') ∧ Box10 W (w.heap.size + 1 + 1) (.int .i64 e.src) (.int .i64 e.dst) (.int .i64 e.guard.kind) (.int .i64 e.guard.val) (.slice a1 e.guard.kids.length c1) (.int .i64 e.var) (.int .i64 e.val.kind) (.int .i64 e.val.val) (.slice a2 e.val.kids.length c2) (.int .i64 e.sync))
    ⟨(by repeat (first | exact Below.refl _ _ | assumption | refine below_a ?_ _ | refine below_o ?_ _ | refine below_d ?_ | refine below_n ?_ _ | refine below_s ?_ (by first | (simp; done) | (simp; omega) | omega) _)), boxp_next (below_alloc _ _) (boxp_at (by simp)), box10_at (by simp) ..⟩ ?_
  rintro W0 ⟨B0, P0, E0⟩
  have HB := hid B0
  have HP0 := hid P0
  have HE0 := hid E0
  have hl0 := cell_bel B0 hbl l0
  obtain ⟨p0, p1, p2, p3, p4⟩ := P0
  obtain ⟨xl, ⟨x0, x1, x2, x3, x4, x5, x6, x7, x8, x9⟩, _⟩ := E0
  clear B0 g0 g1 g2 g3 g4 g5 g6 g7 g8 g9 e0 e1
  go_wp2_with fail
  refine (HEV.out _ HB.out).mono ?_
  rintro ye W1 ⟨rfl, hb⟩
  have B1 := hid (below_next HB.out hb)
  have P1 := boxp_next hb HP0.out
  have E1 := box10_next hb HE0.out
  have hl1 := cell_bel hb (Nat.lt_of_lt_of_le hbl HB.out.size) hl0
  have hbl1 := Nat.lt_of_lt_of_le hbl B1.out.size
  clear hb p0 p1 p2 p3 p4 xl x0 x1 x2 x3 x4 x5 x6 x7 x8 x9 hl0 HEV l0 HP0 HE0
  obtain ⟨p0, p1, p2, p3, p4⟩ := P1
  obtain ⟨xl, ⟨x0, x1, x2, x3, x4, x5, x6, x7, x8, x9⟩, _⟩ := E1
  by_cases hv : v = 0
  · have E := hid (show r = false by rw [HR.out, hv]; simp)
    subst hv
    clear HR
    go_wp2_with fail
    refine wp_region_over (by kernel_rfl) (by kernel_rfl) ?_; (repeat (go_big_quiet_step ((fail)))); refine wpQuiet_nil ?_; rintro _ ⟨xq, rfl⟩
    have B2 := hid (below_next B1.out (over_below W1 xq))
    go_wp2_with fail
    go_ret
    exact Ret.mk (show Value.bool false = _ by rw [E.out]) B2.out
  · have hv2 : (v != 0) = true := by simpa using hv
    by_cases hs : e.src = loc
    · have E := hid (show r = true by rw [HR.out, hs]; simp [hv])
      have hs2 : (e.src == loc) = true := by simpa using hs
      clear hs hv HR
      go_wp2_with fail
      refine wp_region_over (by kernel_rfl) (by kernel_rfl) ?_; (repeat (go_big_quiet_step ((fail)))); refine wpQuiet_nil ?_; rintro _ ⟨xq, rfl⟩
      have B2 := hid (below_next B1.out (over_below W1 xq))
      go_wp2_with fail
      go_ret
      exact Ret.mk (show Value.bool true = _ by rw [E.out]) B2.out
    · have E := hid (show r = false by rw [HR.out]; simp [hs])
      have hs2 : (e.src == loc) = false := by simpa using hs
      clear hs hv HR
      go_wp2_with fail
      refine wp_region_over (by kernel_rfl) (by kernel_rfl) ?_; (repeat (go_big_quiet_step ((fail)))); refine wpQuiet_nil ?_; rintro _ ⟨xq, rfl⟩
      have B2 := hid (below_next B1.out (over_below W1 xq))
      go_wp2_with fail
      go_ret
      exact Ret.mk (show Value.bool false = _ by rw [E.out]) B2.out
end Go.Proofs.Ytffadknollkgiaa
