/- The reference's DrawEdgeValid. Conditions: those of each contract. -/
import Derived.Test.YtffadknollkgiaaDrawSys
namespace Go.Proofs.Ytffadknollkgiaa
open Go.RowKit
set_option linter.unusedVariables false
set_option linter.unusedSimpArgs false

/-- what the law's edge and number come to -/
def EdDr (v : Value) (w' : World) : Prop := ∃ x e n, v = .tuple #[x, .int .i64 n] ∧ EdIn Any w' e x ∧ -1 ≤ n ∧ n ≤ 5 ∧ nodes e.guard ≤ 992 ∧ nodes e.val ≤ 992
/-- an edge in its ten cells -/
theorem ed_cells {p : Nat → Prop} {w : World} {x : Ed} {a1 a2 : Option Addr} {c1 c2 : Nat} (h : EdIn p w x (.agg #[.int .i64 x.src, .int .i64 x.dst, .int .i64 x.guard.kind, .int .i64 x.guard.val, .slice a1 x.guard.kids.length c1, .int .i64 x.var, .int .i64 x.val.kind, .int .i64 x.val.val, .slice a2 x.val.kids.length c2, .int .i64 x.sync])) :
    EdsIn Any (w.alloc (.cells #[.int .i64 x.src, .int .i64 x.dst, .int .i64 x.guard.kind, .int .i64 x.guard.val, .slice a1 x.guard.kids.length c1, .int .i64 x.var, .int .i64 x.val.kind, .int .i64 x.val.val, .slice a2 x.val.kids.length c2, .int .i64 x.sync] 27)) [x] (some ⟨w.heap.size, 0, none⟩) := by
  refine .inr ⟨w.heap.size, 0, rfl, trivial, by simp, fun i t ht => ?_⟩
  have hi : i = 0 := by have := (List.getElem?_eq_some_iff.1 ht).1; simp at this; exact this
  subst hi
  simp at ht
  subst ht
  obtain ⟨hl, ⟨f0, f1, f2, f3, f4, f5, f6, f7, f8, f9⟩, _⟩ := box10_new w (.int .i64 x.src) (.int .i64 x.dst) (.int .i64 x.guard.kind) (.int .i64 x.guard.val) (.slice a1 x.guard.kids.length c1) (.int .i64 x.var) (.int .i64 x.val.kind) (.int .i64 x.val.val) (.slice a2 x.val.kids.length c2) (.int .i64 x.sync) 27
  exact ⟨a1, c1, a2, c2, ⟨f0, f1, f2, f3, f4, f5, f6, f7, f8, f9⟩, h.frame fun b hp hb => ⟨trivial, (below_alloc w _).block b hb⟩⟩
theorem pr_cells {w : World} {q : Pr} {a : Option Addr} {c : Nat} (hq : i64 q.locs) (hc : q.edges.length ≤ c) (hc2 : c ≤ maxLen) (h : EdsIn Any w q.edges a) :
    PrsIn Any (w.alloc (.cells #[.int .i64 q.locs, .slice a q.edges.length c] 41)) [q] (some ⟨w.heap.size, 0, none⟩) := by
  refine .inr ⟨w.heap.size, 0, rfl, trivial, by simp, fun i t ht => ?_⟩
  have hi : i = 0 := by have := (List.getElem?_eq_some_iff.1 ht).1; simp at this; exact this
  subst hi
  simp at ht
  subst ht
  exact ⟨a, c, ⟨by rw [World.cell?_alloc_new]; simp, by rw [World.cell?_alloc_new]; simp⟩, a, c, rfl, hq, hc, hc2, h.below (below_alloc w _)⟩
theorem ed_zero {w : World} : TrIn Any w (.mk 0 0 []) (.agg #[.int .i64 0, .int .i64 0, .slice none 0 0]) := (leaf_new 0 w (k := 0) (v := 0) (by unfold i64; omega) (by unfold i64; omega)).any
theorem lens_one {l : List Pr} {t : List Nat} (h : l.map (fun q : Pr => q.edges.length) = [1] ++ t) : ∃ hl : 0 < l.length, (l[0]).edges.length = 1 := by
  cases l with
  | nil => simp at h
  | cons q qs => simp at h; exact ⟨by simp, by simpa using h.1⟩

open Go.Proofs.Ytffadknollkgiaa.Expr in
set_option maxRecDepth 100000 in
set_option maxHeartbeats 4000000 in
theorem drawEdgeValid_any (w : World) (a : Option Addr) (len cap : Nat) (hb : ByteArg w a len cap) : Calls Try.prog 10 #[.slice a len cap] w (RetP EdDr w) := by
  go_enter Try.func10, Try.ntmps10
  go_wp2_with fail
  refine (open_any _ a len cap (hb.next (below_alloc _ _))).mono ?_
  rintro e w1 ⟨v, rfl, ⟨R, B, rfl, hR, hr⟩, hb1⟩
  have c2 := box10_next hb1 (box10_new w (.int .i64 0) (.int .i64 0) (.int .i64 0) (.int .i64 0) (.slice none 0 0) (.int .i64 0) (.int .i64 0) (.int .i64 0) (.slice none 0 0) (.int .i64 0) 27)
  have B1 := below_next (below_alloc w _) hb1
  simp at hR
  have hB1 : B ≤ w1.heap.size := hr.lt.2
  clear hb1
  go_wp2_with fail
  refine (drawEdge_any _ R B 0 2 (hr.next (below_alloc w1 (.cells #[.int .i64 0, .int .i64 0, .int .i64 0] 3))) (by omega) ⟨by omega, by omega⟩).mono ?_
  rintro e w2 ⟨v, x, p2, rfl, hx, hx1, hx2, hb2, hr2, hp2⟩
  replace c2 := box10_but hb2 (by omega) (box10_next (below_alloc _ _) c2)
  replace B1 := hb2.new (below_next B1 (below_alloc _ _)) (by omega)
  have s12 : w1.heap.size < w2.heap.size := by have := hb2.size; simp at this; omega
  have hRB := hr2.lt
  have HI : IntsIn Any w2 (some ⟨w1.heap.size, 0, none⟩) [0, 0, 0] :=
    IntsIn.frame (p := fun b => b = w1.heap.size) ⟨.inr ⟨w1.heap.size, 0, rfl, rfl, by simp, fun i v hi => by
      rw [Nat.zero_add, World.cell?_alloc_new]; simpa using hi⟩, fun n hn => by simp at hn; subst hn; unfold i64; omega⟩ hb2.size (fun b hp hl => ⟨trivial, hb2.block b hl (by omega)⟩)
  obtain ⟨a1, k1, a2, k2, rfl, _⟩ := id hx
  have hE := ed_cells hx
  have hP := pr_cells (q := ⟨2, [x]⟩) (c := 1) (show i64 2 by unfold i64; omega) (Nat.le_refl _) (by decide) hE
  have hSy : SyIn Any ((w2.alloc (.cells #[.int .i64 x.src, .int .i64 x.dst, .int .i64 x.guard.kind, .int .i64 x.guard.val, .slice a1 x.guard.kids.length k1, .int .i64 x.var, .int .i64 x.val.kind, .int .i64 x.val.val, .slice a2 x.val.kids.length k2, .int .i64 x.sync] 27)).alloc (.cells #[.int .i64 2, .slice (some ⟨w2.heap.size, 0, none⟩) 1 1] 41)) ⟨[0, 0, 0], [⟨2, [x]⟩]⟩ (.agg #[.slice (some ⟨w1.heap.size, 0, none⟩) 3 3, .slice (some ⟨w2.heap.size + 1, 0, none⟩) 1 1]) :=
    ⟨_, 3, _, 1, rfl, by simp, by decide, (HI.below (below_alloc _ _)).below (below_alloc _ _), by simp, by decide, by simpa using hP⟩
  have hni : NilI (.agg #[.slice (some ⟨w1.heap.size, 0, none⟩) 3 3, .slice (some ⟨w2.heap.size + 1, 0, none⟩) 1 1]) := fun a n c y he h => by simp at he; obtain ⟨⟨rfl, _⟩, _⟩ := he; cases h
  have hbn : Bnd 31 5 ⟨[0, 0, 0], [⟨2, [x]⟩]⟩ := ⟨by simp, by simp, fun q hq => by
    simp at hq; subst hq
    exact ⟨by simp, fun e he => by simp at he; subst he; exact ⟨by omega, hx2⟩⟩⟩
  have hr4 := (hr2.next (below_alloc w2 (.cells #[.int .i64 x.src, .int .i64 x.dst, .int .i64 x.guard.kind, .int .i64 x.guard.val, .slice a1 x.guard.kids.length k1, .int .i64 x.var, .int .i64 x.val.kind, .int .i64 x.val.val, .slice a2 x.val.kids.length k2, .int .i64 x.sync] 27))).next (below_alloc _ (.cells #[.int .i64 2, .slice (some ⟨w2.heap.size, 0, none⟩) 1 1] 41))
  replace c2 := box10_next (below_alloc _ (.cells #[.int .i64 2, .slice (some ⟨w2.heap.size, 0, none⟩) 1 1] 41)) (box10_next (below_alloc w2 (.cells #[.int .i64 x.src, .int .i64 x.dst, .int .i64 x.guard.kind, .int .i64 x.guard.val, .slice a1 x.guard.kids.length k1, .int .i64 x.var, .int .i64 x.val.kind, .int .i64 x.val.val, .slice a2 x.val.kids.length k2, .int .i64 x.sync] 27)) c2)
  replace B1 := below_next (below_next B1 (below_alloc w2 (.cells #[.int .i64 x.src, .int .i64 x.dst, .int .i64 x.guard.kind, .int .i64 x.guard.val, .slice a1 x.guard.kids.length k1, .int .i64 x.var, .int .i64 x.val.kind, .int .i64 x.val.val, .slice a2 x.val.kids.length k2, .int .i64 x.sync] 27))) (below_alloc _ (.cells #[.int .i64 2, .slice (some ⟨w2.heap.size, 0, none⟩) 1 1] 41))
  clear hb2 hr2 hr HI hx hE hP
  go_wp2_with fail
  refine (mutSys_any ⟨[0, 0, 0], [⟨2, [x]⟩]⟩ _ _ R B p2 31 5 hSy hni hbn (by omega) (by omega) hr4 (by omega)).mono ?_
  rintro e w3 ⟨v, s', p3, rfl, hs', ⟨hbn', hlen⟩, _, hb3, hr3, hp3⟩
  obtain ⟨a3, k3, a4, k4, rfl⟩ := hs'.shape
  replace c2 := box10_but hb3 (by omega) c2
  replace B1 := hb3.new B1 (by omega)
  have hz : w.heap.size < w1.heap.size := by omega
  have hs3 := hb3.size
  simp only [World.size_alloc] at hs' hs3
  have HL := hid hlen
  have HBN := hid hbn'
  have c3 := box10_next (below_alloc w3 (.cells #[.slice a3 s'.init.length k3, .slice a4 s'.procs.length k4] 36)) c2
  have d3 := boxp_at (w := w3) (a := .slice a3 s'.init.length k3) (b := .slice a4 s'.procs.length k4) (t := 36) rfl
  have r3 := hr3.next (below_alloc w3 (.cells #[.slice a3 s'.init.length k3, .slice a4 s'.procs.length k4] 36))
  have B3 := below_next B1 (below_alloc w3 (.cells #[.slice a3 s'.init.length k3, .slice a4 s'.procs.length k4] 36))
  have s3 := (hs'.mono (q := fun b => w2.heap.size < b) (fun b hb => by have := hb; omega)).below (below_alloc w3 (.cells #[.slice a3 s'.init.length k3, .slice a4 s'.procs.length k4] 36))
  have FF := hid (And.intro c3 (And.intro d3 (And.intro r3 (And.intro B3 s3))))
  clear c3 d3 r3 B3 s3 hb3 hr4 hSy hni hlen hs' c2 B1 hbn' hbn hb hr3
  go_upto_region 3 with fail
  obtain ⟨O, hO⟩ : ∃ O, O = w3.heap.size := ⟨_, rfl⟩
  rw [← hO] at FF
  rw [← hO]
  have hRO : R < O := by omega
  have hwO : w.heap.size < O := by omega
  refine wp_gen (fun W => Box10 W w.heap.size (.int .i64 0) (.int .i64 0) (.int .i64 0) (.int .i64 0) (.slice none 0 0) (.int .i64 0) (.int .i64 0) (.int .i64 0) (.slice none 0 0) (.int .i64 0) ∧ BoxP W O (.slice a3 s'.init.length k3) (.slice a4 s'.procs.length k4) ∧ Rd B W R p3 ∧ Below w.heap.size w W ∧ SyIn (fun b => w2.heap.size < b) W s' (.agg #[.slice a3 s'.init.length k3, .slice a4 s'.procs.length k4])) FF.out ?_
  clear FF hO
  rintro W0 ⟨c3, d3, r3, B3, s3⟩
  go_wp2_with fail
  refine (num_new [2, 2, 3, 4, 1, 5, 0, -1] (-1) 5 (by simp) (by decide) (by decide) B W0 _ R p3 r3 (by omega)).mono ?_
  rintro e w4 ⟨n, rfl, ⟨hn1, hn2⟩, hb4, hr4⟩
  have hni : i64 n := by unfold i64; omega
  have h0 := below_alloc W0 (.cells (([2, 2, 3, 4, 1, 5, 0, -1] : List Int).map (Value.int .i64)).toArray 3)
  have c2 := box10_but hb4 (by omega) (box10_next h0 c3)
  have d4 := boxp_but hb4 (by omega) (boxp_next h0 d3)
  have B1 := hb4.new (below_next B3 h0) (by omega)
  have hs4 := (s3.below h0).frame (q := fun b => w2.heap.size < b) hb4.size (fun b hp hl => ⟨hp, hb4.block b hl (by have := hp; omega)⟩)
  clear hb4 h0 hr4 c3 d3 r3 B3 s3
  obtain ⟨y0, y1, y2, y3, y4⟩ := d4
  have HS4 := hid hs4
  have HC2 := hid c2
  have HB1 := hid B1
  clear hs4 c2 B1
  by_cases hz0 : s'.procs = []
  · rw [hz0, List.length_nil] at y2
    have HB := hid (below_set10 HB1.out (Nat.le_refl w.heap.size) (.int .i64 0) (.int .i64 0) (.int .i64 0) (.int .i64 0) (.slice none 0 0) (.int .i64 0) (.int .i64 0) (.int .i64 0) (.slice none 0 0) (.int .i64 0))
    have T := hid (box10_fill HC2.out (.int .i64 0) (.int .i64 0) (.int .i64 0) (.int .i64 0) (.slice none 0 0) (.int .i64 0) (.int .i64 0) (.int .i64 0) (.slice none 0 0) (.int .i64 0))
    obtain ⟨xl, ⟨x0, x1, x2, x3, x4, x5, x6, x7, x8, x9⟩, ⟨f0, f1, f2, f3, f4, f5, f6, f7, f8, f9⟩⟩ := HC2.out
    clear HS4 HB1 HL
    go_wp2_with fail
    obtain ⟨_, ⟨t0, t1, t2, t3, t4, t5, t6, t7, t8, t9⟩, _⟩ := T.out
    refine bodyPost_ret (v := .tuple #[.agg #[.int .i64 0, .int .i64 0, .int .i64 0, .int .i64 0, .slice none 0 0, .int .i64 0, .int .i64 0, .int .i64 0, .slice none 0 0, .int .i64 0], .int .i64 n]) (by simp [results, Try.results10, go_sem, t0, t1, t2, t3, t4, t5, t6, t7, t8, t9]) rfl ?_
    exact RetP.mk ⟨_, ⟨0, 0, .mk 0 0 [], 0, .mk 0 0 [], 0⟩, n, rfl, ⟨none, 0, none, 0, rfl, by unfold i64; simp, by unfold i64; simp, by unfold i64; simp, by unfold i64; simp, ed_zero, ed_zero⟩, hn1, hn2, by simp [nodes, nodesL], by simp [nodes, nodesL]⟩ HB.out
  · obtain ⟨t, ht⟩ := HL.out.resolve_left hz0
    obtain ⟨hl0, hl1⟩ := lens_one ht
    obtain ⟨_, _, _, _, he, _, _, _, _, _, hP⟩ := HS4.out
    simp at he
    obtain ⟨⟨rfl, rfl⟩, rfl, rfl⟩ := he
    obtain ⟨pb, po, rfl, _, hpb, ea, ec, ⟨g0, g1⟩, hT⟩ := SeqIn.at hP hl0
    obtain ⟨_, _, he, i1, i2, i3, i4⟩ := hT
    simp at he
    obtain ⟨rfl, rfl⟩ := he
    have hl2 : 0 < s'.procs[0].edges.length := by omega
    obtain ⟨eb, eo, rfl, hpE, hbe, a1', n1', a2', n2', ⟨c0, c1, c2, c3, c4, c5, c6, c7, c8, c9⟩, hEd⟩ := SeqIn.at i4 hl2
    have hbd := HBN.out.2.2 s'.procs[0] (by simp)
    have hbe2 := hbd.2 (s'.procs[0].edges[0]) (by simp)
    rw [hl1] at g1
    generalize s'.procs[0].edges[0] = e at *
    rw [Nat.zero_mul, Nat.add_zero] at c0 c1 c2 c3 c4 c5 c6 c7 c8 c9 g0 g1
    have HE := hid (hEd.frame (q := Any) (w' := ((((((((((w4.setCell ⟨w.heap.size, 0, none⟩ (.int .i64 e.src)).setCell ⟨w.heap.size, 1, none⟩ (.int .i64 e.dst)).setCell ⟨w.heap.size, 2, none⟩ (.int .i64 e.guard.kind)).setCell ⟨w.heap.size, 3, none⟩ (.int .i64 e.guard.val)).setCell ⟨w.heap.size, 4, none⟩ (.slice a1' e.guard.kids.length n1')).setCell ⟨w.heap.size, 5, none⟩ (.int .i64 e.var)).setCell ⟨w.heap.size, 6, none⟩ (.int .i64 e.val.kind)).setCell ⟨w.heap.size, 7, none⟩ (.int .i64 e.val.val)).setCell ⟨w.heap.size, 8, none⟩ (.slice a2' e.val.kids.length n2')).setCell ⟨w.heap.size, 9, none⟩ (.int .i64 e.sync))) fun b hb hl => ⟨trivial, (keep_set10 (Keep.refl (w.heap.size + 1) w4) (Nat.lt_succ_self _) _ _ _ _ _ _ _ _ _ _).block b (by have := hb; omega) hl⟩)
    have HB := hid (below_set10 HB1.out (Nat.le_refl w.heap.size) (.int .i64 e.src) (.int .i64 e.dst) (.int .i64 e.guard.kind) (.int .i64 e.guard.val) (.slice a1' e.guard.kids.length n1') (.int .i64 e.var) (.int .i64 e.val.kind) (.int .i64 e.val.val) (.slice a2' e.val.kids.length n2') (.int .i64 e.sync))
    have T := hid (box10_fill HC2.out (.int .i64 e.src) (.int .i64 e.dst) (.int .i64 e.guard.kind) (.int .i64 e.guard.val) (.slice a1' e.guard.kids.length n1') (.int .i64 e.var) (.int .i64 e.val.kind) (.int .i64 e.val.val) (.slice a2' e.val.kids.length n2') (.int .i64 e.sync))
    obtain ⟨xl, ⟨x0, x1, x2, x3, x4, x5, x6, x7, x8, x9⟩, ⟨f0, f1, f2, f3, f4, f5, f6, f7, f8, f9⟩⟩ := HC2.out
    have hlp : (0 : Int) < (s'.procs.length : Int) := by omega
    have hz1 : ((s'.procs.length : Int) == 0) = false := by simp; exact hz0
    clear HS4 HB1 HL HBN hP i4 hl1 ht hEd hpE hl2
    go_wp2_with fail
    obtain ⟨_, ⟨t0, t1, t2, t3, t4, t5, t6, t7, t8, t9⟩, _⟩ := T.out
    refine bodyPost_ret (v := .tuple #[.agg #[.int .i64 e.src, .int .i64 e.dst, .int .i64 e.guard.kind, .int .i64 e.guard.val, .slice a1' e.guard.kids.length n1', .int .i64 e.var, .int .i64 e.val.kind, .int .i64 e.val.val, .slice a2' e.val.kids.length n2', .int .i64 e.sync], .int .i64 n]) (by simp [results, Try.results10, go_sem, t0, t1, t2, t3, t4, t5, t6, t7, t8, t9]) rfl ?_
    exact RetP.mk ⟨_, e, n, rfl, HE.out, hn1, hn2, hbe2.1, hbe2.2⟩ HB.out
end Go.Proofs.Ytffadknollkgiaa
