/- The reference's drawing of systems: DrawSystemValid, DrawSystemVars, DrawInitialState, DrawSystemReach. Conditions: those of each contract. -/
import Derived.Test.YtffadknollkgiaaSysMut
namespace Go.Proofs.Ytffadknollkgiaa
open Go.RowKit
set_option linter.unusedVariables false
set_option linter.unusedSimpArgs false

/-- what a law's system comes to -/
def SyDr (w : World) (v : Value) (w' : World) : Prop := ∃ s, SyIn (fun b => w.heap.size ≤ b) w' s v ∧ Bnd 992 6 s
theorem sy_set2 {w : World} {N B : Nat} {s : Sy} {v : Value} (h : SyIn (fun b => N ≤ b) w s v) (hB : B < N) (u0 u1 : Value) : SyIn (fun b => B ≤ b) ((w.setCell ⟨B, 0, none⟩ u0).setCell ⟨B, 1, none⟩ u1) s v :=
  h.frame (by simp) fun b hb _ => ⟨by have := hb; omega, (Below.heap_setCell _ _ _ _ (show b ≠ B by have := hb; omega)).trans (Below.heap_setCell _ _ _ _ (show b ≠ B by have := hb; omega))⟩
theorem below_set2 {B X : Nat} {w W : World} (h : Below B w W) (hX : B ≤ X) (u0 u1 : Value) : Below B w ((W.setCell ⟨X, 0, none⟩ u0).setCell ⟨X, 1, none⟩ u1) := Below.setCell (Below.setCell h (show B ≤ X from hX) _) (show B ≤ X from hX) _
theorem SyIn.mono {p q : Nat → Prop} {w : World} {s : Sy} {v : Value} (h : SyIn p w s v) (hp : ∀ b, p b → q b) : SyIn q w s v := h.frame (Nat.le_refl _) fun b hb _ => ⟨hp b hb, rfl⟩

open Go.Proofs.Ytffadknollkgiaa.Expr in
set_option maxRecDepth 100000 in
set_option maxHeartbeats 1000000 in
theorem drawSysValid_any (w : World) (a : Option Addr) (len cap : Nat) (hb : ByteArg w a len cap) : Calls Try.prog 14 #[.slice a len cap] w (RetP (SyDr w) w) := by
  go_enter Try.func14, Try.ntmps14
  go_wp2_with fail
  refine (open_any _ a len cap (hb.next (below_alloc _ _))).mono ?_
  rintro e w1 ⟨v, rfl, ⟨R, B, rfl, hR, hr⟩, hb1⟩
  have c2 := boxp_next hb1 (boxp_at (w := w) (a := .slice none 0 0) (b := .slice none 0 0) (t := 36) rfl)
  have B1 := below_next (below_alloc w _) hb1
  simp at hR
  clear hb1
  go_wp2_with fail
  refine (drawSys_any w1 R B 0 hr (by omega)).mono ?_
  rintro e w2 ⟨v, s, p2, rfl, hs, hbn, hni, hb2, hr2, hp2⟩
  replace c2 := boxp_but hb2 (by omega) c2
  replace B1 := hb2.new B1 (by omega)
  have hB2 : B ≤ w2.heap.size := hr2.lt.2
  obtain ⟨a1, k1, a2, k2, rfl⟩ := hs.shape
  clear hb2 hr
  go_wp2_with fail
  refine (mutSys_any s w2 _ R B p2 31 5 hs.any hni hbn (by omega) (by omega) hr2 (by omega)).mono ?_
  rintro e w3 ⟨v, s', p3, rfl, hs', ⟨hbn', _⟩, _, hb3, hr3, hp3⟩
  obtain ⟨a3, k3, a4, k4, rfl⟩ := hs'.shape
  have hl := c2.1
  have hRw : R < B := hr2.lt.1
  replace c2 := boxp_but hb3 (by omega) c2
  replace B1 := hb3.new B1 (by omega)
  have HS := hid (sy_set2 (hs'.mono (q := fun b => w2.heap.size ≤ b) (fun b hb => by have := hb; omega)) hl (.slice a3 s'.init.length k3) (.slice a4 s'.procs.length k4))
  have HB := hid (below_set2 B1 (Nat.le_refl w.heap.size) (.slice a3 s'.init.length k3) (.slice a4 s'.procs.length k4))
  clear hb3 hr2 hr3 hs hs' B1
  obtain ⟨x0, x1, x2, x3, x4⟩ := c2
  go_wp2_with fail
  refine bodyPost_ret (v := .agg #[.slice a3 s'.init.length k3, .slice a4 s'.procs.length k4]) (by simp [results, Try.results14, go_sem, x0, x1, x2, x3, x4]) rfl ?_
  exact RetP.mk ⟨s', HS.out, hbn'⟩ HB.out

open Go.Proofs.Ytffadknollkgiaa.Expr in
set_option maxRecDepth 100000 in
set_option maxHeartbeats 1000000 in
theorem drawSysVars_any (w : World) (a : Option Addr) (len cap : Nat) (hb : ByteArg w a len cap) : Calls Try.prog 20 #[.slice a len cap] w (RetP (SyDr w) w) := by
  go_enter Try.func20, Try.ntmps20
  go_wp2_with fail
  refine (drawSysValid_any _ a len cap (hb.next (below_alloc _ _))).mono ?_
  rintro e w1 ⟨v, rfl, ⟨s, hs, hbn⟩, hb1⟩
  have c2 := boxp_next hb1 (boxp_at (w := w) (a := .slice none 0 0) (b := .slice none 0 0) (t := 36) rfl)
  have B1 := below_next (below_alloc w _) hb1
  obtain ⟨a3, k3, a4, k4, rfl⟩ := hs.shape
  have HS := hid (sy_set2 hs (show w.heap.size < (w.alloc (.cells #[.slice none 0 0, .slice none 0 0] 36)).heap.size by simp) (.slice a3 s.init.length k3) (.slice a4 s.procs.length k4))
  have HB := hid (below_set2 B1 (Nat.le_refl w.heap.size) (.slice a3 s.init.length k3) (.slice a4 s.procs.length k4))
  clear hb1 hs B1
  obtain ⟨x0, x1, x2, x3, x4⟩ := c2
  go_wp2_with fail
  refine bodyPost_ret (v := .agg #[.slice a3 s.init.length k3, .slice a4 s.procs.length k4]) (by simp [results, Try.results20, go_sem, x0, x1, x2, x3, x4]) rfl ?_
  exact RetP.mk ⟨s, HS.out, hbn⟩ HB.out


open Go.Proofs.Ytffadknollkgiaa.Expr in
set_option maxRecDepth 100000 in
set_option maxHeartbeats 1000000 in
theorem drawInit_any (w : World) (a : Option Addr) (len cap : Nat) (hb : ByteArg w a len cap) : Calls Try.prog 24 #[.slice a len cap] w (RetP (SyDr w) w) := by
  go_enter Try.func24, Try.ntmps24
  go_wp2_with fail
  refine (drawSysValid_any _ a len cap (hb.next (below_alloc _ _))).mono ?_
  rintro e w1 ⟨v, rfl, ⟨s, hs, hbn⟩, hb1⟩
  have c2 := boxp_next hb1 (boxp_at (w := w) (a := .slice none 0 0) (b := .slice none 0 0) (t := 36) rfl)
  have B1 := below_next (below_alloc w _) hb1
  obtain ⟨a3, k3, a4, k4, rfl⟩ := hs.shape
  have HS := hid (sy_set2 hs (show w.heap.size < (w.alloc (.cells #[.slice none 0 0, .slice none 0 0] 36)).heap.size by simp) (.slice a3 s.init.length k3) (.slice a4 s.procs.length k4))
  have HB := hid (below_set2 B1 (Nat.le_refl w.heap.size) (.slice a3 s.init.length k3) (.slice a4 s.procs.length k4))
  clear hb1 hs B1
  obtain ⟨x0, x1, x2, x3, x4⟩ := c2
  go_wp2_with fail
  refine bodyPost_ret (v := .agg #[.slice a3 s.init.length k3, .slice a4 s.procs.length k4]) (by simp [results, Try.results24, go_sem, x0, x1, x2, x3, x4]) rfl ?_
  exact RetP.mk ⟨s, HS.out, hbn⟩ HB.out


open Go.Proofs.Ytffadknollkgiaa.Expr in
set_option maxRecDepth 100000 in
set_option maxHeartbeats 1000000 in
theorem drawReach_any (w : World) (a : Option Addr) (len cap : Nat) (hb : ByteArg w a len cap) : Calls Try.prog 17 #[.slice a len cap] w (RetP (fun v w' => ∃ x n, v = .tuple #[x, .int .i64 n] ∧ SyDr w x w' ∧ -1 ≤ n ∧ n ≤ 3) w) := by
  go_enter Try.func17, Try.ntmps17
  go_wp2_with fail
  refine (open_any _ a len cap (hb.next (below_alloc _ _))).mono ?_
  rintro e w1 ⟨v, rfl, ⟨R, B, rfl, hR, hr⟩, hb1⟩
  have c2 := boxp_next hb1 (boxp_at (w := w) (a := .slice none 0 0) (b := .slice none 0 0) (t := 36) rfl)
  have B1 := below_next (below_alloc w _) hb1
  simp at hR
  clear hb1
  go_wp2_with fail
  refine (drawSys_any w1 R B 0 hr (by omega)).mono ?_
  rintro e w2 ⟨v, s, p2, rfl, hs, hbn, hni, hb2, hr2, hp2⟩
  replace c2 := boxp_but hb2 (by omega) c2
  replace B1 := hb2.new B1 (by omega)
  have hB2 : B ≤ w2.heap.size := hr2.lt.2
  obtain ⟨a1, k1, a2, k2, rfl⟩ := hs.shape
  clear hb2 hr
  go_wp2_with fail
  refine (mutSys_any s w2 _ R B p2 31 5 hs.any hni hbn (by omega) (by omega) hr2 (by omega)).mono ?_
  rintro e w3 ⟨v, s', p3, rfl, hs', ⟨hbn', _⟩, _, hb3, hr3, hp3⟩
  obtain ⟨a3, k3, a4, k4, rfl⟩ := hs'.shape
  have hl := c2.1
  have hRw : R < B := hr2.lt.1
  replace c2 := boxp_but hb3 (by omega) c2
  replace B1 := hb3.new B1 (by omega)
  clear hb3 hr2
  have c3 := boxp_next (below_alloc w3 (.cells #[.slice a3 s'.init.length k3, .slice a4 s'.procs.length k4] 36)) c2
  have d3 := boxp_at (w := w3) (a := .slice a3 s'.init.length k3) (b := .slice a4 s'.procs.length k4) (t := 36) rfl
  have r3 := hr3.next (below_alloc w3 (.cells #[.slice a3 s'.init.length k3, .slice a4 s'.procs.length k4] 36))
  have B3 := below_next B1 (below_alloc w3 (.cells #[.slice a3 s'.init.length k3, .slice a4 s'.procs.length k4] 36))
  have s3 := (hs'.mono (q := fun b => w2.heap.size ≤ b) (fun b hb => by have := hb; omega)).below (below_alloc w3 (.cells #[.slice a3 s'.init.length k3, .slice a4 s'.procs.length k4] 36))
  have hw3 := hr3.lt
  clear c2 B1 hs hs' hr3
  go_upto_region 3 with fail
  obtain ⟨O, hO⟩ : ∃ O, O = w3.heap.size := ⟨_, rfl⟩
  rw [← hO] at d3
  rw [← hO]
  have hRO : R < O := by omega
  have hwO : w.heap.size < O := by omega
  refine wp_gen (fun W => BoxP W w.heap.size (.slice none 0 0) (.slice none 0 0) ∧ BoxP W O (.slice a3 s'.init.length k3) (.slice a4 s'.procs.length k4) ∧ Rd B W R p3 ∧ Below w.heap.size w W ∧ SyIn (fun b => w2.heap.size ≤ b) W s' (.agg #[.slice a3 s'.init.length k3, .slice a4 s'.procs.length k4])) ⟨c3, d3, r3, B3, s3⟩ ?_
  clear c3 d3 r3 B3 s3 hO
  rintro W0 ⟨c3, d3, r3, B3, s3⟩
  obtain ⟨y0, y1, y2, y3, y4⟩ := id d3
  obtain ⟨x0, x1, x2, x3, x4⟩ := id c3
  have K := hid ((KeepP.refl [O] W0).drew)
  have h0 := below_next (below_d (Below.refl W0.heap.size W0)) (below_alloc W0.drew (.cells (([0, 1, 0, 2, -1, 3] : List Int).map (Value.int .i64)).toArray 3))
  have Rdd := r3.next (below_d (Below.refl W0.heap.size W0))
  refine wp_region_ord (C := fun wZ => ∃ xZ, wZ = World.overP _ ([O]) xZ) [0,1] (.one 2 (.one 3 (.one 4 (.fre 5 .done)))) [5] (by kernel_rfl) (by kernel_rfl) (fun d _ _ _ _ h => by cases d <;> exact h) (KeepP.refl _ _).drew.ex ?_; simp only [pick, List.getElem?_cons_succ, List.getElem?_cons_zero]; (repeat (go_big_quiet_step (fail))); refine wpQuiet_nil ?_; simp only [ordW, pick, List.getElem?_cons_succ, List.getElem?_cons_zero]
  go_wp2_with fail
  refine ⟨(K.out.trans (KeepP.below (below_alloc _ _))).ex, ?_⟩
  go_wp2_with fail
  refine (num_new [0, 1, 0, 2, -1, 3] (-1) 3 (by simp) (by decide) (by decide) B W0.drew _ R p3 Rdd (by omega)).mono ?_
  rintro e wD ⟨n, rfl, ⟨hn1, hn2⟩, hb, R3⟩
  have K3 := hid ((KeepP.below (S := [O]) h0).trans (KeepP.but hb (by simp; omega)))
  have cD := boxp_but hb (by omega) (boxp_next h0 c3)
  have BD := hb.new (below_next B3 h0) (by omega)
  have sD := (s3.below h0).frame (q := fun b => w2.heap.size ≤ b) hb.size (fun b hp hl => ⟨hp, hb.block b hl (by have := hp; omega)⟩)
  have HS := hid (sy_set2 sD (show w.heap.size < w2.heap.size by omega) (.slice a3 s'.init.length k3) (.slice a4 s'.procs.length k4))
  have HB := hid (below_set2 BD (Nat.le_refl w.heap.size) (.slice a3 s'.init.length k3) (.slice a4 s'.procs.length k4))
  have KF := hid ((K3.out.set (a := ⟨w.heap.size, 0, none⟩) (by simp; omega) (.slice a3 s'.init.length k3)).set (a := ⟨w.heap.size, 1, none⟩) (by simp; omega) (.slice a4 s'.procs.length k4))
  have T := hid (boxp_set1 (boxp_set0 cD (.slice a3 s'.init.length k3)) (.slice a4 s'.procs.length k4))
  clear hb h0 Rdd R3 c3 d3 r3 B3 s3 BD sD K x0 x1 x2 x3 x4 y0 y1 y2 y3 y4
  obtain ⟨x0, x1, x2, x3, x4⟩ := cD
  go_wp2_with fail
  refine ⟨K3.out.ex, ?_⟩
  go_wp2_with fail
  refine ⟨KF.out.ex, ?_⟩
  go_wp2_with fail
  obtain ⟨_, t0, t1, _, _⟩ := T.out
  refine bodyPost_ret (v := .tuple #[.agg #[.slice a3 s'.init.length k3, .slice a4 s'.procs.length k4], .int .i64 n]) (by simp [results, Try.results17, go_sem, t0, t1]) rfl ?_
  exact RetP.mk ⟨_, n, rfl, ⟨s', HS.out, hbn'⟩, hn1, hn2⟩ HB.out
end Go.Proofs.Ytffadknollkgiaa
