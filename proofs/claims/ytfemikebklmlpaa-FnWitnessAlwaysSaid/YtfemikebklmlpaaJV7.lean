/- Joined texts (ReadyV, TakeV, StMut, StepsV, ProcsApp): contracts and plain laws. Conditions: those of each theorem. -/
import Derived.Test.YtfemikebklmlpaaJV6
import Derived.Test.YtfemikebklmlpaaJV3
import Derived.Test.YtfemikebklmlpaaJV2
import Derived.Test.YtfemikebklmlpaaJV4
import Derived.Test.YtfemikebklmlpaaJV5
import Derived.Deep.RegionHeld3
import Derived.Deep.DeepCutAuto
import Derived.Deep.CutBlock
set_option linter.unusedVariables false
set_option linter.unusedSimpArgs false
namespace Go.Proofs.Ytfemikebklmlpaa
open Go.RowKit
set_option linter.unusedVariables false
set_option linter.unusedSimpArgs false
namespace Sys

/-- is an edge of process i ready -/
def rdy (ls vs : List Int) (i : Nat) (e : Ed) : Bool := decide (e.src = ls.getD i 0) && decide (evalT (Expr.gOf vs) e.guard ≠ 0)
theorem okSt_facts {s : Sy} {ls vs : List Int} (h : State.okSt s ls vs = true) : okSy s = true ∧ ls.length = s.procs.length ∧ Expr.okVals vs = true := by
  rw [State.okSt, Bool.and_eq_true, State.hasB, Bool.and_eq_true, Bool.and_eq_true, decide_eq_true_eq] at h
  exact ⟨h.1, h.2.1, h.2.2.1⟩
theorem guard_ok {q : Pr} (h : okP q = true) {e : Ed} (he : e ∈ q.edges) : exprL.shape e.guard 6 = true ∧ -2 ≤ e.sync ∧ e.sync ≤ 2 := by
  rw [okP] at h
  simp only [Bool.and_eq_true, decide_eq_true_eq, List.all_eq_true] at h
  have := h.1 e he
  rw [Edge.okB, Bool.and_eq_true, Edge.okV, Bool.and_eq_true, Bool.and_eq_true, Bool.and_eq_true] at this
  obtain ⟨_, h1, h2, _⟩ := this
  simp only [decide_eq_true_eq] at h2
  exact ⟨by rw [Lang.valid, Bool.and_eq_true] at h1; exact h1.1, h2.1, h2.2⟩

set_option maxRecDepth 100000 in
set_option maxHeartbeats 4000000 in
theorem specReady_any (s : Sy) (ls vs : List Int) (i k : Nat) (hok : State.okSt s ls vs = true) (hi : i < s.procs.length) (hk : k < s.procs[i].edges.length) (w : World) (x y : Value) (hx : SyIn Any w s x) (hy : State.PairIn Any w ls vs y) :
    Calls Try.prog 95 #[x, y, .int .i64 i, .int .i64 k] w (Ret (.bool (rdy ls vs i s.procs[i].edges[k])) w) := by
  obtain ⟨o1, o2, o3⟩ := okSt_facts hok
  obtain ⟨hgs, _⟩ := guard_ok ((okSy_procs o1).2 _ (List.getElem_mem hi)) (List.getElem_mem hk)
  obtain ⟨a, c, b, d, rfl, hc, hc2, hin, hd, hd2, hp⟩ := hx
  obtain ⟨a', b', c', d', rfl, hls, hvs, hc', hc2', hd', hd2'⟩ := hy
  have HVS := hid (Expr.okVals_vals o3 hvs)
  have h3 : vs.length = 3 := HVS.out.2.1
  rw [h3] at hd' ⊢
  obtain ⟨bb, ob, rfl, _, hb3, ac, cc, ⟨e0, e1⟩, hpr⟩ := SeqIn.at hp hi
  have hil : i < ls.length := by omega
  obtain ⟨bl, ol, rfl, hbl, _, l0⟩ := hls.1.at (Below.refl _ _) (show (ls.map (Value.int .i64))[i]? = some (.int .i64 (ls.getD i 0)) by rw [List.getElem?_map, List.getElem?_eq_getElem hil, List.getD_eq_getElem?_getD, List.getElem?_eq_getElem hil]; rfl)
  generalize s.procs[i] = q at *
  obtain ⟨_, _, e5, _, hc5, hc6, he5⟩ := hpr
  cases e5
  obtain ⟨be, oe, rfl, _, hbe, a1, c1, a2, c2, ⟨g0, g1, g2, g3, g4, g5, g6, g7, g8, g9⟩, hed⟩ := SeqIn.at he5 hk
  have hk2 : (k : Int) < (q.edges.length : Int) := by omega
  have hi2 : (i : Int) < (s.procs.length : Int) := by omega
  have hil2 : (i : Int) < (ls.length : Int) := by omega
  generalize q.edges[k] = e at *
  obtain ⟨_, _, _, _, e6, _, _, _, _, t1, t2⟩ := hed
  cases e6
  have HEV := hid (fun (W : World) (M : Below w.heap.size w W) => Expr.sv_any e.guard 6 W (.agg #[.int .i64 e.guard.kind, .int .i64 e.guard.val, .slice a1 e.guard.kids.length c1]) b' vs d' hgs (TrIn_below M t1) (HVS.out.below M) hd' hd2')
  have HR := hid (show rdy ls vs i e = (decide (e.src = ls.getD i 0) && decide (evalT (Expr.gOf vs) e.guard ≠ 0)) from rfl)
  generalize rdy ls vs i e = r at *
  generalize evalT (Expr.gOf vs) e.guard = v at *
  generalize ls.getD i 0 = loc at *
  generalize s.procs.length = np at *
  generalize ls.length = nl at *
  generalize q.edges.length = ne at *
  unfold maxLen at hc6 hd2 hc2' hd2'
  clear hgs o1 o2 o3 hok t1 t2 hp hls hvs he5 hin hc hc2 h3 hi hk hil HVS
  by_cases hs : e.src = loc
  · have hs2 : (e.src == loc) = true := by simp [hs]
    have HS := hid hs
    by_cases hv : v = 0
    · have E := hid (show r = false by rw [HR.out, hv]; simp)
      subst hv
      clear HR hs
      go_enter Try.func95, Try.ntmps95
      go_wp2_with fail
      obtain ⟨w1, hw1⟩ : ∃ w1 : World, Hid (w1 = (((w.alloc (.cells #[.slice a s.init.length c, .slice (some ⟨bb, ob, none⟩) np d] 96)).alloc (.cells #[.slice (some ⟨bl, ol, none⟩) nl c', .slice b' 3 d'] 91)).alloc (.cells #[.int .i64 e.src, .int .i64 e.dst, .int .i64 e.guard.kind, .int .i64 e.guard.val, .slice a1 e.guard.kids.length c1, .int .i64 e.var, .int .i64 e.val.kind, .int .i64 e.val.val, .slice a2 e.val.kids.length c2, .int .i64 e.sync] 125))) := ⟨_, hid rfl⟩
      have B1 := hid (show Below w.heap.size w w1 from by rw [hw1.out]; exact (by repeat (first | exact Below.refl _ _ | assumption | refine below_a ?_ _ | refine below_o ?_ _ | refine below_d ?_ | refine below_n ?_ _ | refine below_s ?_ (by first | (simp; done) | (simp; omega) | omega) _)))
      have XS := hid (show Box2 w1 (w.heap.size + 1) (.slice (some ⟨bl, ol, none⟩) nl c') (.slice b' 3 d') by rw [hw1.out]; exact box2_next (below_alloc _ _) (box2_at (by simp)))
      have XE := hid (show Box10 w1 (w.heap.size + 1 + 1) (.int .i64 e.src) (.int .i64 e.dst) (.int .i64 e.guard.kind) (.int .i64 e.guard.val) (.slice a1 e.guard.kids.length c1) (.int .i64 e.var) (.int .i64 e.val.kind) (.int .i64 e.val.val) (.slice a2 e.val.kids.length c2) (.int .i64 e.sync) by rw [hw1.out]; exact box10_at (by simp) ..)
      rw [← hw1.out]
      clear hw1 g0 g1 g2 g3 g4 g5 g6 g7 g8 g9 e0 e1
      have hbl1 : bl < w1.heap.size := by have := B1.out.size; omega
      have l1 := (B1.out.cell (p := ⟨bl, ol + i, none⟩) hbl).trans l0
      obtain ⟨s0, s1, s2, _⟩ := id XS.out
      obtain ⟨q0, ⟨u0, u1, u2, u3, u4, u5, u6, u7, u8, u9⟩, _⟩ := id XE.out
      clear l0
      refine wp_region_tail (C := fun wZ => ∃ xZ, wZ = World.over _ xZ) [0,1,2,3,4,5,6,7,8,9,10,11,12] [13,14,15,16] (16) (by kernel_rfl) (by kernel_rfl) (fun d _ _ _ _ h => by cases d <;> exact h) (bex (Below.refl _ _).drew) ?_; simp only [pick, List.getElem?_cons_succ, List.getElem?_cons_zero]; (repeat (go_big_quiet_step (fail))); refine wpQuiet_nil ?_; simp only [tailW]
      go_wp2_with fail
      refine (HEV.out _ (below_d B1.out)).mono ?_
      rintro _ w2 ⟨rfl, hb⟩
      have B2 := hid (show Below w1.heap.size w1 w2 from below_then (below_d (Below.refl _ _)) hb (by simp))
      have B3 := hid (below_then B1.out B2.out B1.out.size)
      clear hb
      go_wp2_with fail
      refine ⟨bex B2.out, ?_⟩
      go_wp2_with fail
      refine ⟨bex B2.out, ?_⟩
      go_wp2_with fail
      refine ⟨bex B2.out, ?_⟩
      go_wp2_with fail
      go_ret
      exact Ret.mk (bool_val (by rw [E.out]; try simp [hv])) B3.out
    · have E := hid (show r = true by rw [HR.out, hs]; simp [hv])
      have hv2 : (v != 0) = true := by simp [hv]
      clear HR hs
      go_enter Try.func95, Try.ntmps95
      go_wp2_with fail
      obtain ⟨w1, hw1⟩ : ∃ w1 : World, Hid (w1 = (((w.alloc (.cells #[.slice a s.init.length c, .slice (some ⟨bb, ob, none⟩) np d] 96)).alloc (.cells #[.slice (some ⟨bl, ol, none⟩) nl c', .slice b' 3 d'] 91)).alloc (.cells #[.int .i64 e.src, .int .i64 e.dst, .int .i64 e.guard.kind, .int .i64 e.guard.val, .slice a1 e.guard.kids.length c1, .int .i64 e.var, .int .i64 e.val.kind, .int .i64 e.val.val, .slice a2 e.val.kids.length c2, .int .i64 e.sync] 125))) := ⟨_, hid rfl⟩
      have B1 := hid (show Below w.heap.size w w1 from by rw [hw1.out]; exact (by repeat (first | exact Below.refl _ _ | assumption | refine below_a ?_ _ | refine below_o ?_ _ | refine below_d ?_ | refine below_n ?_ _ | refine below_s ?_ (by first | (simp; done) | (simp; omega) | omega) _)))
      have XS := hid (show Box2 w1 (w.heap.size + 1) (.slice (some ⟨bl, ol, none⟩) nl c') (.slice b' 3 d') by rw [hw1.out]; exact box2_next (below_alloc _ _) (box2_at (by simp)))
      have XE := hid (show Box10 w1 (w.heap.size + 1 + 1) (.int .i64 e.src) (.int .i64 e.dst) (.int .i64 e.guard.kind) (.int .i64 e.guard.val) (.slice a1 e.guard.kids.length c1) (.int .i64 e.var) (.int .i64 e.val.kind) (.int .i64 e.val.val) (.slice a2 e.val.kids.length c2) (.int .i64 e.sync) by rw [hw1.out]; exact box10_at (by simp) ..)
      rw [← hw1.out]
      clear hw1 g0 g1 g2 g3 g4 g5 g6 g7 g8 g9 e0 e1
      have hbl1 : bl < w1.heap.size := by have := B1.out.size; omega
      have l1 := (B1.out.cell (p := ⟨bl, ol + i, none⟩) hbl).trans l0
      obtain ⟨s0, s1, s2, _⟩ := id XS.out
      obtain ⟨q0, ⟨u0, u1, u2, u3, u4, u5, u6, u7, u8, u9⟩, _⟩ := id XE.out
      clear l0
      refine wp_region_tail (C := fun wZ => ∃ xZ, wZ = World.over _ xZ) [0,1,2,3,4,5,6,7,8,9,10,11,12] [13,14,15,16] (16) (by kernel_rfl) (by kernel_rfl) (fun d _ _ _ _ h => by cases d <;> exact h) (bex (Below.refl _ _).drew) ?_; simp only [pick, List.getElem?_cons_succ, List.getElem?_cons_zero]; (repeat (go_big_quiet_step (fail))); refine wpQuiet_nil ?_; simp only [tailW]
      go_wp2_with fail
      refine (HEV.out _ (below_d B1.out)).mono ?_
      rintro _ w2 ⟨rfl, hb⟩
      have B2 := hid (show Below w1.heap.size w1 w2 from below_then (below_d (Below.refl _ _)) hb (by simp))
      have B3 := hid (below_then B1.out B2.out B1.out.size)
      clear hb
      go_wp2_with fail
      refine ⟨bex B2.out, ?_⟩
      go_wp2_with fail
      refine ⟨bex B2.out, ?_⟩
      go_wp2_with fail
      refine ⟨bex B2.out, ?_⟩
      go_wp2_with fail
      go_ret
      exact Ret.mk (bool_val (by rw [E.out]; try simp [hv])) B3.out
  · have hs2 : (e.src == loc) = false := by simpa using hs
    have E := hid (show r = false by rw [HR.out]; simp [hs])
    clear HR hs
    go_enter Try.func95, Try.ntmps95
    go_wp2_with fail
    obtain ⟨w1, hw1⟩ : ∃ w1 : World, Hid (w1 = (((w.alloc (.cells #[.slice a s.init.length c, .slice (some ⟨bb, ob, none⟩) np d] 96)).alloc (.cells #[.slice (some ⟨bl, ol, none⟩) nl c', .slice b' 3 d'] 91)).alloc (.cells #[.int .i64 e.src, .int .i64 e.dst, .int .i64 e.guard.kind, .int .i64 e.guard.val, .slice a1 e.guard.kids.length c1, .int .i64 e.var, .int .i64 e.val.kind, .int .i64 e.val.val, .slice a2 e.val.kids.length c2, .int .i64 e.sync] 125))) := ⟨_, hid rfl⟩
    have B1 := hid (show Below w.heap.size w w1 from by rw [hw1.out]; exact (by repeat (first | exact Below.refl _ _ | assumption | refine below_a ?_ _ | refine below_o ?_ _ | refine below_d ?_ | refine below_n ?_ _ | refine below_s ?_ (by first | (simp; done) | (simp; omega) | omega) _)))
    have XS := hid (show Box2 w1 (w.heap.size + 1) (.slice (some ⟨bl, ol, none⟩) nl c') (.slice b' 3 d') by rw [hw1.out]; exact box2_next (below_alloc _ _) (box2_at (by simp)))
    have XE := hid (show Box10 w1 (w.heap.size + 1 + 1) (.int .i64 e.src) (.int .i64 e.dst) (.int .i64 e.guard.kind) (.int .i64 e.guard.val) (.slice a1 e.guard.kids.length c1) (.int .i64 e.var) (.int .i64 e.val.kind) (.int .i64 e.val.val) (.slice a2 e.val.kids.length c2) (.int .i64 e.sync) by rw [hw1.out]; exact box10_at (by simp) ..)
    rw [← hw1.out]
    clear hw1 g0 g1 g2 g3 g4 g5 g6 g7 g8 g9 e0 e1
    have hbl1 : bl < w1.heap.size := by have := B1.out.size; omega
    have l1 := (B1.out.cell (p := ⟨bl, ol + i, none⟩) hbl).trans l0
    obtain ⟨s0, s1, s2, _⟩ := id XS.out
    obtain ⟨q0, ⟨u0, u1, u2, u3, u4, u5, u6, u7, u8, u9⟩, _⟩ := id XE.out
    clear l0
    refine wp_region_tail (C := fun wZ => ∃ xZ, wZ = World.over _ xZ) [0,1,2,3,4,5,6,7,8,9,10,11,12] [13,14,15,16] (16) (by kernel_rfl) (by kernel_rfl) (fun d _ _ _ _ h => by cases d <;> exact h) (bex (Below.refl _ _).drew) ?_; simp only [pick, List.getElem?_cons_succ, List.getElem?_cons_zero]; (repeat (go_big_quiet_step (fail))); refine wpQuiet_nil ?_; simp only [tailW]
    go_wp2_with fail
    refine ⟨bex (below_d (Below.refl _ _)), ?_⟩
    go_wp2_with fail
    refine ⟨bex (below_d (Below.refl _ _)), ?_⟩
    go_wp2_with fail
    refine ⟨bex (below_d (Below.refl _ _)), ?_⟩
    go_wp2_with fail
    go_ret
    exact Ret.mk (bool_val (by rw [E.out])) (below_d B1.out)

end Sys
end Go.Proofs.Ytfemikebklmlpaa
namespace Go.Proofs.Ytfemikebklmlpaa
open Go.RowKit
set_option linter.unusedVariables false
set_option linter.unusedSimpArgs false

/-- a row of numbers at the start of a block that may be written -/
def RowI (w : World) (g : Nat) (l : List Int) : Prop := Row w g l.length (fun i => (l.map (Value.int .i64)).getD i undef)
theorem RowI.set {w : World} {g q : Nat} {l : List Int} (h : RowI w g l) (hq : q < l.length) (n : Int) : RowI (w.setCell ⟨g, q, none⟩ (.int .i64 n)) g (l.set q n) := by
  have h5 := Row.set h hq (.int .i64 n)
  unfold RowI
  simp only [List.length_set]
  refine h5.congr fun i hi => ?_
  show (if i = q then _ else (l.map (Value.int .i64)).getD i undef) = ((l.set q n).map (Value.int .i64)).getD i undef
  rw [List.getD_eq_getElem?_getD, List.getD_eq_getElem?_getD, List.getElem?_map, List.getElem?_map, List.getElem?_set]
  by_cases hiq : i = q
  · subst hiq; simp [hi]
  · rw [if_neg hiq, if_neg (Ne.symm hiq)]
theorem RowI.keep {w w' : World} {g : Nat} {l : List Int} (h : RowI w g l) (hs : w.heap.size ≤ w'.heap.size) (he : w'.heap[g]? = w.heap[g]?) : RowI w' g l := Row.kept h hs he
theorem RowI.next {w w' : World} {g : Nat} {l : List Int} (h : RowI w g l) (hb : Below w.heap.size w w') : RowI w' g l := Row.below h hb
theorem RowI.other {w : World} {g : Nat} {l : List Int} (h : RowI w g l) {a : Addr} (ha : g ≠ a.block) (v : Value) : RowI (w.setCell a v) g l := Row.setOther h ha v
theorem RowI.ints {p : Nat → Prop} {w : World} {g : Nat} {l : List Int} (h : RowI w g l) (hi : ∀ n, n ∈ l → i64 n) (hp : p g) : IntsIn p w (some ⟨g, 0, none⟩) l :=
  ⟨.inr ⟨g, 0, rfl, hp, h.1, fun i v hv => by
    rw [Nat.zero_add]
    have hlt : i < l.length := by have := (List.getElem?_eq_some_iff.1 hv).1; simpa using this
    rw [h.2.1 i hlt]
    show some ((l.map (Value.int .i64)).getD i undef) = _
    rw [List.getD_eq_getElem?_getD, hv]; rfl⟩, hi⟩
theorem RowI.at {w : World} {g q : Nat} {l : List Int} (h : RowI w g l) (hq : q < l.length) : ∃ v, w.cell? ⟨g, q, none⟩ = some v ∧ w.frozen? ⟨g, q, none⟩ = false := ⟨_, h.2.1 q hq, h.2.2 q⟩
theorem OwnI.rowI {B g n c : Nat} {l : List Int} {w : World} (h : OwnI B (.slice (some ⟨g, 0, none⟩) n c) l w) : RowI w g l := by
  rcases h.row with ⟨_, e⟩ | ⟨g', c', e, _, _, _, h4⟩
  · simp at e
  · simp at e
    obtain ⟨rfl, _, _⟩ := e
    exact h4
/-- the values behind an edge -/
def takeV (vs : List Int) (e : Ed) : List Int := if 0 ≤ e.var then vs.set e.var.toNat (evalT (Expr.gOf vs) e.val) else vs
theorem only_new {S : List Nat} {w W : World} (h : Only S w W) {a : Addr} (ha : w.heap.size ≤ a.block) (u : Value) : Only S w (W.setCell a u) :=
  ⟨h.os, h.tape, h.output, by simpa using h.size, fun b hb hn => by rw [Below.heap_setCell _ _ _ _ (by omega)]; exact h.block b hb hn⟩
def TakePost (g1 g2 c1 c2 : Nat) (ls vs : List Int) (w : World) (e : Ending) (w' : World) : Prop :=
  e = .returned (.agg #[.slice (some ⟨g1, 0, none⟩) ls.length c1, .slice (some ⟨g2, 0, none⟩) vs.length c2]) ∧ RowI w' g1 ls ∧ RowI w' g2 vs ∧ Only [g1, g2] w w'

set_option maxRecDepth 100000 in
set_option maxHeartbeats 4000000 in
theorem take_any (ls vs : List Int) (e : Ed) (pn : Nat) (w : World) (x : Value) (g1 g2 c1 c2 : Nat) (hne : g1 ≠ g2) (h1 : RowI w g1 ls) (h2 : RowI w g2 vs) (hc1 : ls.length ≤ c1 ∧ c1 ≤ maxLen) (hc2 : vs.length ≤ c2 ∧ c2 ≤ maxLen) (hp : pn < ls.length) (hl : ls.length ≤ 1000)
    (hv : Expr.okVals vs = true) (hvi : ∀ n, n ∈ vs → i64 n) (hvar : e.var ≤ 2) (hval : 0 ≤ e.var → exprL.shape e.val 6 = true) (hx : EdIn (fun b => b ≠ g1) w e x) :
    Calls Try.prog 97 #[.agg #[.slice (some ⟨g1, 0, none⟩) ls.length c1, .slice (some ⟨g2, 0, none⟩) vs.length c2], .int .i64 pn, x] w (TakePost g1 g2 c1 c2 (ls.set pn e.dst) (takeV vs e) w) := by
  obtain ⟨a1, n1, a2, n2, rfl, i1, i2, i3, i4, hg, ht⟩ := hx
  have hl1 := h1.1
  have hl2 := h2.1
  have h3 : vs.length = 3 := by rw [Expr.okVals, Bool.and_eq_true, decide_eq_true_eq] at hv; exact hv.2
  have hpi : (pn : Int) < (ls.length : Int) := by omega
  obtain ⟨v1, r1, r2⟩ := h1.at hp
  have HV := hid hv
  have HVI := hid hvi
  have HVAL := hid hval
  have H3 := hid h3
  clear h3
  have b0 : BoxP (((w.alloc (.cells #[.slice (some ⟨g1, 0, none⟩) ls.length c1, .slice (some ⟨g2, 0, none⟩) vs.length c2] 91)).alloc (.cells #[.int .i64 e.src, .int .i64 e.dst, .int .i64 e.guard.kind, .int .i64 e.guard.val, .slice a1 e.guard.kids.length n1, .int .i64 e.var, .int .i64 e.val.kind, .int .i64 e.val.val, .slice a2 e.val.kids.length n2, .int .i64 e.sync] 125)).alloc (.cells #[.slice none 0 0, .slice none 0 0] 91)) w.heap.size (.slice (some ⟨g1, 0, none⟩) ls.length c1) (.slice (some ⟨g2, 0, none⟩) vs.length c2) := boxp_next (below_alloc _ _) (boxp_next (below_alloc _ _) (boxp_at rfl))
  have b1 : Box10 (((w.alloc (.cells #[.slice (some ⟨g1, 0, none⟩) ls.length c1, .slice (some ⟨g2, 0, none⟩) vs.length c2] 91)).alloc (.cells #[.int .i64 e.src, .int .i64 e.dst, .int .i64 e.guard.kind, .int .i64 e.guard.val, .slice a1 e.guard.kids.length n1, .int .i64 e.var, .int .i64 e.val.kind, .int .i64 e.val.val, .slice a2 e.val.kids.length n2, .int .i64 e.sync] 125)).alloc (.cells #[.slice none 0 0, .slice none 0 0] 91)) (w.heap.size + 1) (.int .i64 e.src) (.int .i64 e.dst) (.int .i64 e.guard.kind) (.int .i64 e.guard.val) (.slice a1 e.guard.kids.length n1) (.int .i64 e.var) (.int .i64 e.val.kind) (.int .i64 e.val.val) (.slice a2 e.val.kids.length n2) (.int .i64 e.sync) := box10_next (below_alloc _ _) (box10_at (by simp) _ _ _ _ _ _ _ _ _ _ _)
  have b2 : BoxP (((w.alloc (.cells #[.slice (some ⟨g1, 0, none⟩) ls.length c1, .slice (some ⟨g2, 0, none⟩) vs.length c2] 91)).alloc (.cells #[.int .i64 e.src, .int .i64 e.dst, .int .i64 e.guard.kind, .int .i64 e.guard.val, .slice a1 e.guard.kids.length n1, .int .i64 e.var, .int .i64 e.val.kind, .int .i64 e.val.val, .slice a2 e.val.kids.length n2, .int .i64 e.sync] 125)).alloc (.cells #[.slice none 0 0, .slice none 0 0] 91)) (w.heap.size + 1 + 1) (.slice none 0 0) (.slice none 0 0) := boxp_at (by simp)
  have hA := below_next (below_next (below_alloc w (.cells #[.slice (some ⟨g1, 0, none⟩) ls.length c1, .slice (some ⟨g2, 0, none⟩) vs.length c2] 91)) (below_alloc _ (.cells #[.int .i64 e.src, .int .i64 e.dst, .int .i64 e.guard.kind, .int .i64 e.guard.val, .slice a1 e.guard.kids.length n1, .int .i64 e.var, .int .i64 e.val.kind, .int .i64 e.val.val, .slice a2 e.val.kids.length n2, .int .i64 e.sync] 125))) (below_alloc _ (.cells #[.slice none 0 0, .slice none 0 0] 91))
  go_enter Try.func97, Try.ntmps97
  go_upto_region 1 with fail
  refine wp_gen (fun W => BoxP W w.heap.size (.slice (some ⟨g1, 0, none⟩) ls.length c1) (.slice (some ⟨g2, 0, none⟩) vs.length c2) ∧ Box10 W (w.heap.size + 1) (.int .i64 e.src) (.int .i64 e.dst) (.int .i64 e.guard.kind) (.int .i64 e.guard.val) (.slice a1 e.guard.kids.length n1) (.int .i64 e.var) (.int .i64 e.val.kind) (.int .i64 e.val.val) (.slice a2 e.val.kids.length n2) (.int .i64 e.sync) ∧ BoxP W (w.heap.size + 1 + 1) (.slice none 0 0) (.slice none 0 0) ∧ Below w.heap.size w W) ⟨b0, b1, b2, hA⟩ ?_
  clear b0 b1 b2 hA
  rintro W0 ⟨b0, b1, b2, hA⟩
  have R1 := h1.next hA
  have R2 := h2.next hA
  have hT := TrIn_below hA ht
  clear r1 r2 hv hvi hval hg ht
  obtain ⟨v1, r1, r2⟩ := R1.at hp
  have X0 := hid (boxp_set b0 (p := ⟨g1, pn, none⟩) (show w.heap.size ≠ g1 by omega) (.int .i64 e.dst))
  have X1 := hid (box10_but (But.set W0 g1 pn (.int .i64 e.dst)) (show w.heap.size + 1 ≠ g1 by omega) b1)
  have X2 := hid (boxp_set b2 (p := ⟨g1, pn, none⟩) (show w.heap.size + 1 + 1 ≠ g1 by omega) (.int .i64 e.dst))
  have R1' := hid (R1.set hp e.dst)
  have R2' := hid (R2.other (a := ⟨g1, pn, none⟩) (Ne.symm hne) (.int .i64 e.dst))
  have hT' := hid ((TrIn_frame (q := fun b => b ≠ g1) (w' := W0.setCell ⟨g1, pn, none⟩ (.int .i64 e.dst)) fun b hb _ => ⟨hb, Below.heap_setCell _ _ _ _ hb⟩).1 _ _ hT)
  have O1 := hid ((Only.below (S := [g1, g2]) hA).set (a := ⟨g1, pn, none⟩) (by simp) (.int .i64 e.dst))
  obtain ⟨x0, x1, x2, x3, x4⟩ := b0
  obtain ⟨yl, ⟨y0, y1, y2, y3, y4, y5, y6, y7, y8, y9⟩, _⟩ := b1
  clear R1 R2 hT b2
  go_upto_region 2 with fail
  refine wp_gen (fun W => BoxP W w.heap.size (.slice (some ⟨g1, 0, none⟩) ls.length c1) (.slice (some ⟨g2, 0, none⟩) vs.length c2) ∧ Box10 W (w.heap.size + 1) (.int .i64 e.src) (.int .i64 e.dst) (.int .i64 e.guard.kind) (.int .i64 e.guard.val) (.slice a1 e.guard.kids.length n1) (.int .i64 e.var) (.int .i64 e.val.kind) (.int .i64 e.val.val) (.slice a2 e.val.kids.length n2) (.int .i64 e.sync) ∧ BoxP W (w.heap.size + 1 + 1) (.slice none 0 0) (.slice none 0 0) ∧ RowI W g1 (ls.set pn e.dst) ∧ RowI W g2 vs ∧ TrIn (fun b => b ≠ g1) W e.val (.agg #[.int .i64 e.val.kind, .int .i64 e.val.val, .slice a2 e.val.kids.length n2]) ∧ Only [g1, g2] w W) ⟨X0.out, X1.out, X2.out, R1'.out, R2'.out, hT'.out, O1.out⟩ ?_
  clear X0 X1 X2 R1' R2' hT' O1 r1 r2 x0 x1 x2 x3 x4 yl y0 y1 y2 y3 y4 y5 y6 y7 y8 y9 hA
  rintro W1 ⟨b0, b1, b2, R1, R2, hT, O1⟩
  have X0 := hid b0
  have X1 := hid b1
  have X2 := hid b2
  have HR1 := hid R1
  have HR2 := hid R2
  have HT := hid hT
  have HO := hid O1
  obtain ⟨x0, x1, x2, x3, x4⟩ := b0
  obtain ⟨yl, ⟨y0, y1, y2, y3, y4, y5, y6, y7, y8, y9⟩, _⟩ := b1
  obtain ⟨z0, z1, z2, z3, z4⟩ := id b2
  clear R1 hT O1 b2
  have hls : (ls.set pn e.dst).length = ls.length := List.length_set
  have HLS := hid hls
  clear hls
  by_cases hvr : 0 ≤ e.var
  · obtain ⟨vn, hvn⟩ := Int.eq_ofNat_of_zero_le hvr
    have HTV := hid (show takeV vs e = vs.set vn (evalT (Expr.gOf vs) e.val) by rw [takeV, if_pos hvr, hvn, Int.toNat_natCast])
    have hvv : vn < vs.length := by have := H3.out; omega
    have hvv2 : (vn : Int) < (vs.length : Int) := by omega
    rw [hvn] at y5
    obtain ⟨v2, q1, q2⟩ := R2.at hvv
    have HEV := hid (fun (W : World) (M : Below W1.heap.size W1 W) => by
      have h := Expr.sv_any e.val 6 W (.agg #[.int .i64 e.val.kind, .int .i64 e.val.val, .slice a2 e.val.kids.length n2]) (some ⟨g2, 0, none⟩) vs c2 (HVAL.out hvr) (TrIn_below M ((TrIn_frame (q := Any) fun b _ _ => ⟨trivial, rfl⟩).1 _ _ HT.out)) ((Expr.okVals_vals HV.out (HR2.out.ints HVI.out trivial)).below M) (by have := H3.out; omega) hc2.2
      rw [← H3.out] at h
      exact h)
    clear hvn hvr R2 HV HVI HVAL q1 q2
    generalize evalT (Expr.gOf vs) e.val = r at *
    go_wp2_with fail
    refine wp_region_ord (C := fun wZ => ∃ xZ, wZ = World.over _ xZ) [0,1,2,3,4,5,6,7] (.one 8 (.fre 9 (.fre 10 .done))) [9,10] (by kernel_rfl) (by kernel_rfl) (fun d _ _ _ _ h => by cases d <;> exact h) (bex (Below.refl _ _).drew) ?_; simp only [pick, List.getElem?_cons_succ, List.getElem?_cons_zero]; (repeat (go_big_quiet_step (fail))); refine wpQuiet_nil ?_; simp only [ordW, pick, List.getElem?_cons_succ, List.getElem?_cons_zero]
    have hd := below_d (Below.refl W1.heap.size W1)
    go_wp2_with fail
    refine (HEV.out _ hd).mono ?_
    rintro y W2 ⟨rfl, hb⟩
    have B2 := hid (below_next hd hb)
    have T0 := boxp_next B2.out X0.out
    have T2 := boxp_next B2.out X2.out
    have gl : g2 < W1.heap.size := HR2.out.1
    have U1 := (HR1.out.next B2.out).other (a := ⟨g2, vn, none⟩) hne (.int .i64 r)
    have U2 := (HR2.out.next B2.out).set hvv r
    have UO := (HO.out.trans (Only.below B2.out)).set (a := ⟨g2, vn, none⟩) (by simp) (.int .i64 r)
    obtain ⟨v3, q1, q2⟩ := (HR2.out.next B2.out).at hvv
    have F1 := hid ((U1.other (a := ⟨w.heap.size + 1 + 1, 0, none⟩) (show g1 ≠ w.heap.size + 1 + 1 by omega) (.slice (some ⟨g1, 0, none⟩) ls.length c1)).other (a := ⟨w.heap.size + 1 + 1, 1, none⟩) (show g1 ≠ w.heap.size + 1 + 1 by omega) (.slice (some ⟨g2, 0, none⟩) vs.length c2))
    have F2 := hid ((U2.other (a := ⟨w.heap.size + 1 + 1, 0, none⟩) (show g2 ≠ w.heap.size + 1 + 1 by omega) (.slice (some ⟨g1, 0, none⟩) ls.length c1)).other (a := ⟨w.heap.size + 1 + 1, 1, none⟩) (show g2 ≠ w.heap.size + 1 + 1 by omega) (.slice (some ⟨g2, 0, none⟩) vs.length c2))
    have FO := hid (only_new (only_new UO (a := ⟨w.heap.size + 1 + 1, 0, none⟩) (show w.heap.size ≤ w.heap.size + 1 + 1 by omega) (.slice (some ⟨g1, 0, none⟩) ls.length c1)) (a := ⟨w.heap.size + 1 + 1, 1, none⟩) (show w.heap.size ≤ w.heap.size + 1 + 1 by omega) (.slice (some ⟨g2, 0, none⟩) vs.length c2))
    have TT := hid (boxp_set1 (boxp_set0 (boxp_set T2 (p := ⟨g2, vn, none⟩) (show w.heap.size + 1 + 1 ≠ g2 by omega) (.int .i64 r)) (.slice (some ⟨g1, 0, none⟩) ls.length c1)) (.slice (some ⟨g2, 0, none⟩) vs.length c2))
    clear hb hd U1 U2 UO HR1 HR2 HT HO X0 X1 X2 x0 x1 x2 x3 x4 yl y0 y1 y2 y3 y4 y5 y6 y7 y8 y9 z0 z1 z2 z3 z4
    obtain ⟨x0, x1, x2, x3, x4⟩ := T0
    obtain ⟨z0, z1, z2, z3, z4⟩ := T2
    go_wp2_with fail
    refine ⟨bex B2.out, ?_⟩
    go_wp2_with fail
    obtain ⟨_, t0, t1, _, _⟩ := TT.out
    refine bodyPost_ret (v := .agg #[.slice (some ⟨g1, 0, none⟩) ls.length c1, .slice (some ⟨g2, 0, none⟩) vs.length c2]) (by simp [results, Try.results97, go_sem, t0, t1]) rfl ?_
    refine ⟨by rw [HLS.out, HTV.out, List.length_set], F1.out, by rw [HTV.out]; exact F2.out, FO.out⟩
  · have HTV := hid (show takeV vs e = vs by rw [takeV, if_neg hvr])
    have F1 := hid ((HR1.out.other (a := ⟨w.heap.size + 1 + 1, 0, none⟩) (show g1 ≠ w.heap.size + 1 + 1 by omega) (.slice (some ⟨g1, 0, none⟩) ls.length c1)).other (a := ⟨w.heap.size + 1 + 1, 1, none⟩) (show g1 ≠ w.heap.size + 1 + 1 by omega) (.slice (some ⟨g2, 0, none⟩) vs.length c2))
    have F2 := hid ((HR2.out.other (a := ⟨w.heap.size + 1 + 1, 0, none⟩) (show g2 ≠ w.heap.size + 1 + 1 by omega) (.slice (some ⟨g1, 0, none⟩) ls.length c1)).other (a := ⟨w.heap.size + 1 + 1, 1, none⟩) (show g2 ≠ w.heap.size + 1 + 1 by omega) (.slice (some ⟨g2, 0, none⟩) vs.length c2))
    have FO := hid (only_new (only_new HO.out (a := ⟨w.heap.size + 1 + 1, 0, none⟩) (show w.heap.size ≤ w.heap.size + 1 + 1 by omega) (.slice (some ⟨g1, 0, none⟩) ls.length c1)) (a := ⟨w.heap.size + 1 + 1, 1, none⟩) (show w.heap.size ≤ w.heap.size + 1 + 1 by omega) (.slice (some ⟨g2, 0, none⟩) vs.length c2))
    have TT := hid (boxp_set1 (boxp_set0 X2.out (.slice (some ⟨g1, 0, none⟩) ls.length c1)) (.slice (some ⟨g2, 0, none⟩) vs.length c2))
    clear HR1 HR2 HT HO X0 X1 X2 R2 HV HVI HVAL
    go_wp2_with fail
    obtain ⟨_, t0, t1, _, _⟩ := TT.out
    refine bodyPost_ret (v := .agg #[.slice (some ⟨g1, 0, none⟩) ls.length c1, .slice (some ⟨g2, 0, none⟩) vs.length c2]) (by simp [results, Try.results97, go_sem, t0, t1]) rfl ?_
    refine ⟨by rw [HLS.out, HTV.out], F1.out, by rw [HTV.out]; exact F2.out, FO.out⟩
end Go.Proofs.Ytfemikebklmlpaa
namespace Go.Proofs.Ytfemikebklmlpaa
open Go.RowKit
open Go.Proofs.Ytfemikebklmlpaa.State (PairIn)
set_option linter.unusedVariables false
set_option linter.unusedSimpArgs false

/-- nil rows have room for none -/
def NilO (v : Value) : Prop := ∀ a b c d n m, v = .agg #[.slice a n c, .slice b m d] → (a = none → c = 0) ∧ (b = none → d = 0)
/-- what a changed state comes to -/
def StmPost (B K M R p : Nat) (w : World) (e : Ending) (w' : World) : Prop :=
  ∃ v s l p', e = .returned v ∧ PairIn (fun b => w.heap.size + 1 < b) w' s l v ∧ NilO v ∧ s.length ≤ M ∧ l.length ≤ M ∧ But w R w' ∧ Rd B w' R p' ∧ p' ≤ p + K
theorem stm_last {w W : World} {s l : List Int} {R B p K p' M c d : Nat} {a b : Option Addr} (h1 : IntsIn (fun b => w.heap.size + 1 < b) W a s) (h2 : IntsIn (fun b => w.heap.size + 1 < b) W b l) (c1 : s.length ≤ c) (c2 : c ≤ maxLen) (d1 : l.length ≤ d) (d2 : d ≤ maxLen) (n1 : a = none → c = 0) (n2 : b = none → d = 0)
    (hb : But w R W) (hr : Rd B W R p') (hB : B ≤ w.heap.size) (m1 : s.length ≤ M) (m2 : l.length ≤ M) (u1 u2 : Value) (hp : p' ≤ p + K) :
    StmPost B K M R p w (.returned (.agg #[.slice a s.length c, .slice b l.length d])) ((W.setCell ⟨w.heap.size + 1, 0, none⟩ u1).setCell ⟨w.heap.size + 1, 1, none⟩ u2) := by
  have hk : ∀ b, w.heap.size + 1 < b → ((W.setCell ⟨w.heap.size + 1, 0, none⟩ u1).setCell ⟨w.heap.size + 1, 1, none⟩ u2).heap[b]? = W.heap[b]? := fun b hb =>
    (Below.heap_setCell _ _ _ _ (show b ≠ w.heap.size + 1 by omega)).trans (Below.heap_setCell _ _ _ _ (show b ≠ w.heap.size + 1 by omega))
  exact ⟨_, s, l, p', rfl, ⟨a, b, c, d, rfl, h1.frame (by simp) (fun b hb _ => ⟨hb, hk b hb⟩), h2.frame (by simp) (fun b hb _ => ⟨hb, hk b hb⟩), c1, c2, d1, d2⟩, fun a' b' c' d' n m he => by simp at he; obtain ⟨⟨rfl, _, rfl⟩, rfl, _, rfl⟩ := he; exact ⟨n1, n2⟩, m1, m2,
    But.setNew (But.setNew hb (show w.heap.size ≤ w.heap.size + 1 by omega) _) (show w.heap.size ≤ w.heap.size + 1 by omega) _, (hr.set (show B ≤ w.heap.size + 1 by omega) _).set (show B ≤ w.heap.size + 1 by omega) _, hp⟩
theorem ints_set {p : Nat → Prop} {w : World} {g q : Nat} {l : List Int} {n : Int} (h : IntsIn p w (some ⟨g, 0, none⟩) l) (hq : q < l.length) (hn : i64 n) : IntsIn p (w.setCell ⟨g, q, none⟩ (.int .i64 n)) (some ⟨g, 0, none⟩) (l.set q n) := by
  obtain ⟨h1 | ⟨b, o, he, h2, h3, h4⟩, h5⟩ := h
  · simp at h1; subst h1; simp at hq
  · simp at he
    obtain ⟨rfl, rfl⟩ := he
    have hold := h4 q _ (by rw [List.getElem?_map, List.getElem?_eq_getElem hq]; rfl)
    rw [Nat.zero_add] at hold
    refine ⟨.inr ⟨g, 0, rfl, h2, by simpa using h3, fun i v hv => ?_⟩, fun m hm => ?_⟩
    · rw [Nat.zero_add]
      rw [List.getElem?_map, List.getElem?_set] at hv
      by_cases e : q = i
      · subst e
        simp [hq] at hv
        subst hv
        exact World.cell?_setCell_same _ _ _ hold
      · rw [if_neg e] at hv
        have := h4 i v (by rw [List.getElem?_map]; exact hv)
        rw [Nat.zero_add] at this
        rw [World.cell?_setCell_other _ _ _ _ (by simp [e])]
        exact this
    · rcases List.mem_or_eq_of_mem_set hm with h | h
      · exact h5 m h
      · subst h; exact hn

theorem num_later (ns : List Int) (lo hi : Int) (hn : ∀ n ∈ ns, lo ≤ n ∧ n ≤ hi) (h0 : 0 < ns.length) (h1 : ns.length ≤ 100) (B0 : Nat) (w w' : World) (t : TypeId) (R p : Nat) (hb : But (w.alloc (.cells (ns.map (Value.int .i64)).toArray t)) R w') (hr : Rd B0 w' R p) (hp : p ≤ 1000000) (hR : R < w.heap.size) :
    Calls Try.prog 34 #[.pointer (some ⟨R, 0, none⟩), .slice (some ⟨w.heap.size, 0, none⟩) ns.length ns.length] w' (NumPost B0 lo hi R p w') := by
  have hs := hb.size
  simp at hs
  refine num_any B0 lo hi _ R p w.heap.size ns.length (fun i => ns.getD i 0) hr hp h0 h1 (by omega) (by omega) fun i hi => ?_
  have e : ns[i]? = some (ns.getD i 0) := by rw [List.getD_eq_getElem?_getD, List.getElem?_eq_getElem hi]; rfl
  refine ⟨?_, hn _ (List.mem_of_getElem? e)⟩
  rw [hb.cell (b := w.heap.size) (o := i) (by simp) (show w.heap.size ≠ R by omega), World.cell?_alloc_new]
  rw [List.getElem?_toArray, List.getElem?_map, e]
  rfl

end Go.Proofs.Ytfemikebklmlpaa
namespace Go.Proofs.Ytfemikebklmlpaa
open Go.RowKit
set_option linter.unusedVariables false
namespace Sys

/-- a variable of four cells -/
def Box4 (w : World) (B : Nat) (a b c d : Value) : Prop := B < w.heap.size ∧ (w.cell? ⟨B, 0, none⟩ = some a ∧ w.cell? ⟨B, 1, none⟩ = some b ∧ w.cell? ⟨B, 2, none⟩ = some c ∧ w.cell? ⟨B, 3, none⟩ = some d) ∧ ∀ i, w.frozen? ⟨B, i, none⟩ = false
theorem box4_block {w w' : World} (hs : w.heap.size ≤ w'.heap.size) {B : Nat} {a b c d : Value} (he : w'.heap[B]? = w.heap[B]?) (h : Box4 w B a b c d) : Box4 w' B a b c d := by
  have ec : ∀ i, w'.cell? ⟨B, i, none⟩ = w.cell? ⟨B, i, none⟩ := fun i => World.cell?_of_block (w := w) (a := ⟨B, i, none⟩) he
  have ef : ∀ i, w'.frozen? ⟨B, i, none⟩ = w.frozen? ⟨B, i, none⟩ := fun i => World.frozen?_of_block (w := w) (a := ⟨B, i, none⟩) he
  exact ⟨Nat.lt_of_lt_of_le h.1 hs, by simp only [ec]; exact h.2.1, by simp only [ef]; exact h.2.2⟩
theorem box4_next {w w' : World} (h : Below w.heap.size w w') {B : Nat} {a b c d : Value} (hb : Box4 w B a b c d) : Box4 w' B a b c d := box4_block h.size (h.block B hb.1) hb
theorem box4_at {w : World} {B : Nat} {a b c d : Value} {t : TypeId} (h : B = w.heap.size) : Box4 (w.alloc (.cells #[a, b, c, d] t)) B a b c d := by subst h; exact ⟨by simp, by simp, by simp⟩

/-- which of n processes are p or q -/
def procsB (n : Nat) (p q : Int) : List Bool := (List.range n).map fun (i : Nat) => decide (p = (i : Int)) || decide (q = (i : Int))
def stepB (s : Sy) (p q : Int) : List Bool := if okSy s = true then procsB s.procs.length p q else []
theorem procsB_len (n : Nat) (p q : Int) : (procsB n p q).length = n := by simp [procsB]
theorem procsB_at {n i : Nat} (p q : Int) (h : i < n) : (procsB n p q)[i]? = some (decide (p = (i : Int)) || decide (q = (i : Int))) := by simp [procsB, h]
theorem stepB_len (s : Sy) (p q : Int) : (stepB s p q).length ≤ 1000 := by
  unfold stepB
  split
  · rename_i ho
    rw [okSy] at ho
    simp only [Bool.and_eq_true, decide_eq_true_eq] at ho
    rw [procsB_len]; omega
  · simp
/-- what is filled in -/
theorem procs_done {n : Nat} {p q : Int} {w w' : World} {R : Nat} {g : Nat → Value} (hn : n ≤ 1000) (hB : w.heap.size ≤ R) (hr : Row w' R n g) (hg : ∀ i, i < n → g i = .bool (decide (p = (i : Int)) || decide (q = (i : Int)))) : NewV w.heap.size ((procsB n p q).map Value.bool) (.slice (some ⟨R, 0, none⟩) n n) w' := by
  have hl : ((procsB n p q).map Value.bool).length = n := by rw [List.length_map, procsB_len]
  refine ⟨_, n, [R], by rw [hl], by rw [hl]; exact Nat.le_refl _, by unfold maxLen; omega, .inr ⟨R, rfl, rfl, ?_⟩, by simpa using hB⟩
  rw [hl]
  refine hr.congr fun i hi => ?_
  rw [hg i hi, List.getD_eq_getElem?_getD, List.getElem?_map, procsB_at p q hi]
  rfl
theorem procs_step {k : Nat} {p q : Int} {g : Nat → Value} {v : Bool} (h : ∀ i, i < k → g i = .bool (decide (p = (i : Int)) || decide (q = (i : Int)))) (hv : v = (decide (p = (k : Int)) || decide (q = (k : Int)))) : ∀ i, i < k + 1 → (fun i => if i = k then Value.bool v else g i) i = .bool (decide (p = (i : Int)) || decide (q = (i : Int))) := fun i hi => by
  by_cases e : i = k
  · subst e; simp [hv]
  · simp [e]; exact (by simpa using h i (by omega))

end Sys
end Go.Proofs.Ytfemikebklmlpaa
namespace Go.Proofs.Ytfemikebklmlpaa
open Go.RowKit
set_option linter.unusedVariables false
set_option linter.unusedSimpArgs false

/-- two cells that are a process -/
def PrC0 (p : Nat → Prop) (w : World) (q : Pr) (c : List Value) : Prop := ∃ a n, c = [.int .i64 q.locs, .slice a q.edges.length n] ∧ PrIn p w q (.agg c.toArray)
theorem PrC0.frame {p : Nat → Prop} {w w' : World} {q : Pr} {c : List Value} (h : PrC0 p w q c) (hb : Below w.heap.size w w') : PrC0 p w' q c := by
  obtain ⟨a, n, h1, h2⟩ := h
  exact ⟨a, n, h1, h2.below hb⟩
theorem prs_cells {p : Nat → Prop} {w : World} {b : Nat} : ∀ (l : List Pr) (o : Nat), (∀ i t, l[i]? = some t → PrAt p w t b (o + i * 2)) → ∃ cs : List (List Value), AllR (PrC0 p w) l cs ∧ ∀ j u, cs.flatten[j]? = some u → w.cell? ⟨b, o + j, none⟩ = some u
  | [], o, _ => ⟨[], trivial, by simp⟩
  | q :: qs, o, h => by
    obtain ⟨a, n, ⟨h0, h1⟩, h2⟩ := h 0 q (by simp)
    obtain ⟨cs, k1, k2⟩ := prs_cells qs (o + 2) (fun i t hi => by
      have := h (i + 1) t (by simpa using hi)
      rw [show o + (i + 1) * 2 = o + 2 + i * 2 by omega] at this
      exact this)
    refine ⟨[.int .i64 q.locs, .slice a q.edges.length n] :: cs, ⟨⟨a, n, rfl, h2⟩, k1⟩, fun j u hj => ?_⟩
    match j, hj with
    | 0, hj => simp at hj; subst hj; simpa using h0
    | 1, hj => simp at hj; subst hj; simpa using h1
    | j + 2, hj =>
      have := k2 j u (by simpa using hj)
      rw [show o + (j + 2) = o + 2 + j by omega]
      exact this
theorem prc0_len {p : Nat → Prop} {w : World} {l : List Pr} {cs : List (List Value)} (h : AllR (PrC0 p w) l cs) : ∀ c, c ∈ cs → c.length = 2 := by
  intro c hc
  obtain ⟨i, hi⟩ := List.mem_iff_getElem?.1 hc
  have hl : i < l.length := by have := (List.getElem?_eq_some_iff.1 hi).1; rw [h.len] at this; exact this
  obtain ⟨c', h1, a, n, h2, _⟩ := h.at (List.getElem?_eq_getElem hl)
  rw [hi] at h1
  cases h1
  rw [h2]
  rfl
theorem prc0_one {p : Nat → Prop} {w : World} {l : List Pr} {cs : List (List Value)} (h : AllR (PrC0 p w) l cs) : ∀ u, u ∈ cs.flatten → u.oneCell' = true := by
  intro u hu
  obtain ⟨c, hc, huc⟩ := List.mem_flatten.1 hu
  obtain ⟨i, hi⟩ := List.mem_iff_getElem?.1 hc
  have hl : i < l.length := by have := (List.getElem?_eq_some_iff.1 hi).1; rw [h.len] at this; exact this
  obtain ⟨c', h1, a, n, h2, _⟩ := h.at (List.getElem?_eq_getElem hl)
  rw [hi] at h1
  cases h1
  rw [h2] at huc
  simp at huc
  rcases huc with rfl | rfl <;> rfl
/-- append of a row of processes -/
theorem wp_app_procs {ops : Array Oper} {rest : List Oper} {o : Oper} {a : Act} {Q : Exit → Act → World → Prop} {w : World} (hgd : o.guard = none) (s x : Operand)
    (ho : o.op = .call { callee := .builtin .append, args := #[s, x], argTypes := #[94, 94] }) (B : Nat) (v : Value) (acc cs : List (List Value)) (m b off c : Nat) (hs : a.eval s = v) (hx : a.eval x = .slice (some ⟨b, off, none⟩) m c)
    (hv : OwnR 120 2 B v acc w) (hB : B ≤ w.heap.size) (hm : cs.length = m) (hcl : ∀ c, c ∈ cs → c.length = 2) (hone : ∀ u, u ∈ cs.flatten → u.oneCell' = true) (hl : ∀ j u, cs.flatten[j]? = some u → w.cell? ⟨b, off + j, none⟩ = some u) (h1 : acc.length + m ≤ 100000)
    (h : ∀ v' w', OwnR 120 2 B v' (acc ++ cs) w' → w.grownBy w' v.ownBlock → (v'.ownBlock = v.ownBlock ∨ v'.ownBlock = some w.heap.size) → wpList Try.prog ops Q rest (a.put o.dst v') w') :
    wpList Try.prog ops Q (o :: rest) a w := by
  obtain ⟨ri, hi, hz, hs1, hs2⟩ := info_parts proc_info
  refine wpList_append_own_at _ hgd s x 94 ho B 120 ri _ 2 32 Try.underlying94 hi hz hs1 hs2 rfl (by omega) v acc.length _ hs hv.1 ⟨b, off, none⟩ m c cs.flatten hx (by rw [flat_len cs hcl, hm]) (fun j u hj => ?_) hone (by simp only [maxLen]; omega) (by omega) hB ?_
  · have e : Addr.add ⟨b, off, none⟩ j = ⟨b, off + j, none⟩ := by unfold Addr.add; split <;> simp_all
    rw [e]
    exact hl j u hj
  · intro v2 w3 hown hgrow _ hblk
    refine h v2 w3 ⟨?_, fun c hc => ?_⟩ hgrow hblk
    · rw [List.length_append, List.flatten_append, hm]; exact hown
    · rcases List.mem_append.1 hc with h | h
      · exact hv.2 c h
      · exact hcl c h
theorem OwnR.made (w : World) : OwnR 120 2 w.heap.size (.slice (some ⟨w.heap.size, 0, none⟩) 0 0) [] (w.alloc (.cells #[] 120)) :=
  ⟨World.ownsRow_made (e := 120) (size := 2) (base := w.heap.size) w #[] 0 (Nat.le_refl _) (by simp) (by simp), by simp⟩
theorem prs_of0 {p : Nat → Prop} {w : World} {B : Nat} {a : Option Addr} {n c : Nat} {l : List Pr} {cs : List (List Value)} (h : OwnR 120 2 B (.slice a n c) cs w) (ha : AllR (PrC0 p w) l cs) (hp : ∀ g, a = some ⟨g, 0, none⟩ → p g) : PrsIn p w l a := by
  obtain ⟨a', c', e, _, _, h3⟩ := h.shape
  simp at e
  obtain ⟨rfl, rfl, rfl⟩ := e
  rcases h3 with h3 | ⟨g, rfl, h4, h5, h6, h7⟩
  · subst h3
    have := ha.len
    exact .inl (List.eq_nil_of_length_eq_zero (by simpa using this.symm))
  · refine .inr ⟨g, 0, rfl, hp g rfl, h5, fun i t ht => ?_⟩
    obtain ⟨cc, hcc, a1, n1, e1, e2⟩ := ha.at ht
    rw [Nat.zero_add]
    have hcell : ∀ j, j < 2 → w.cell? ⟨g, i * 2 + j, none⟩ = ([.int .i64 t.locs, .slice a1 t.edges.length n1] : List Value)[j]? := fun j hj => by rw [h6 i j cc hcc hj, e1]
    subst e1
    exact ⟨a1, n1, ⟨hcell 0 (by omega), hcell 1 (by omega)⟩, e2⟩
theorem cell_bel {w w' : World} (h : Below w.heap.size w w') {b o : Nat} {v : Value} (hb : b < w.heap.size) (hc : w.cell? ⟨b, o, none⟩ = some v) : w'.cell? ⟨b, o, none⟩ = some v := (World.cell?_of_block (w := w) (a := ⟨b, o, none⟩) (h.block b hb)).trans hc
theorem below_grown2 {w1 W w' : World} {g : Option Nat} (hb : Below w1.heap.size w1 W) (hg : W.grownBy w' g) (h : ∀ k, g = some k → w1.heap.size ≤ k) : Below w1.heap.size w1 w' :=
  ⟨hg.os.trans hb.os, hg.tape.trans hb.tape, hg.output.trans hb.output, Nat.le_trans hb.size hg.size, fun k hk => (hg.block k (Nat.lt_of_lt_of_le hk hb.size) (fun e => by have := h k e.symm; omega)).trans (hb.block k hk)⟩
end Go.Proofs.Ytfemikebklmlpaa
