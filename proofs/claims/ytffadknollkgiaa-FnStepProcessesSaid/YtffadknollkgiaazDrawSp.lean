/- The reference's DrawStepProcesses: a system and some step. Conditions: those of the contract. -/
import Derived.Test.YtffadknollkgiaazDrawAp
set_option linter.unusedVariables false
set_option linter.unusedSimpArgs false
namespace Go.Proofs.Ytffadknollkgiaa
open Go.RowKit
open Go.Proofs.Ytffadknollkgiaa.Sys
set_option linter.unusedVariables false
set_option linter.unusedSimpArgs false

/-- what the law's system and step come to -/
def SpDr (w : World) (v : Value) (w' : World) : Prop := ∃ x s p e q f, v = .tuple #[x, .agg #[.int .i64 p, .int .i64 e, .int .i64 q, .int .i64 f]] ∧ SyIn (fun b => w.heap.size ≤ b) w' s x ∧ Bnd 992 6 s

set_option maxRecDepth 100000 in
set_option maxHeartbeats 4000000 in
theorem drawSp_any (w : World) (a : Option Addr) (len cap : Nat) (hb : ByteArg w a len cap) : Calls Try.prog 29 #[.slice a len cap] w (RetP (SpDr w) w) := by
  go_enter Try.func29, Try.ntmps29
  go_wp2_with fail
  have k0 := below_next (below_alloc w (.cells #[.slice none 0 0, .slice none 0 0] 36)) (below_alloc _ (.cells #[.int .i64 0, .int .i64 0, .int .i64 0, .int .i64 0] 56))
  refine (drawAp_any _ a len cap (hb.next k0)).mono ?_
  rintro e w1 ⟨v, rfl, ⟨x, s, a5, l5, k5, a6, l6, k6, p, e, q, f, rfl, hs, hbn⟩, hb1⟩
  have c2 := boxp_next hb1 (boxp_next (below_alloc _ (.cells #[.int .i64 0, .int .i64 0, .int .i64 0, .int .i64 0] 56)) (boxp_at (w := w) (a := .slice none 0 0) (b := .slice none 0 0) (t := 36) rfl))
  have c3 := box4_next hb1 (box4_at (w := w.alloc (.cells #[.slice none 0 0, .slice none 0 0] 36)) (B := w.heap.size + 1) (a := .int .i64 0) (b := .int .i64 0) (c := .int .i64 0) (d := .int .i64 0) (t := 56) (by simp))
  have B1 := below_next k0 hb1
  simp only [World.size_alloc] at hs
  obtain ⟨a7, k7, a8, k8, rfl⟩ := hs.shape
  have k1 := below_next (below_next (below_alloc w1 (.cells #[.slice a7 s.init.length k7, .slice a8 s.procs.length k8] 36)) (below_alloc _ (.cells #[.slice a5 l5 k5, .slice a6 l6 k6] 50))) (below_alloc _ (.cells #[.int .i64 p, .int .i64 e, .int .i64 q, .int .i64 f] 56))
  have FF := hid (And.intro (boxp_next (below_next (below_alloc _ (.cells #[.slice a5 l5 k5, .slice a6 l6 k6] 50)) (below_alloc _ (.cells #[.int .i64 p, .int .i64 e, .int .i64 q, .int .i64 f] 56))) (boxp_at (w := w1) (a := .slice a7 s.init.length k7) (b := .slice a8 s.procs.length k8) (t := 36) rfl)) (And.intro (box4_at (w := (w1.alloc (.cells #[.slice a7 s.init.length k7, .slice a8 s.procs.length k8] 36)).alloc (.cells #[.slice a5 l5 k5, .slice a6 l6 k6] 50)) (B := w1.heap.size + 1 + 1) (a := .int .i64 p) (b := .int .i64 e) (c := .int .i64 q) (d := .int .i64 f) (t := 56) (by simp)) (And.intro (boxp_next k1 c2) (And.intro (box4_next k1 c3) (And.intro (below_next B1 k1) (hs.below k1))))))
  have hw1 := c3.1
  clear hb1 hs B1 k0 k1 c2 c3 hb
  go_upto_region 2 with fail
  refine wp_gen (fun W => BoxP W w1.heap.size (.slice a7 s.init.length k7) (.slice a8 s.procs.length k8) ∧ Box4 W (w1.heap.size + 1 + 1) (.int .i64 p) (.int .i64 e) (.int .i64 q) (.int .i64 f) ∧ BoxP W w.heap.size (.slice none 0 0) (.slice none 0 0) ∧ Box4 W (w.heap.size + 1) (.int .i64 0) (.int .i64 0) (.int .i64 0) (.int .i64 0) ∧ Below w.heap.size w W ∧ SyIn (fun b => w.heap.size + 1 + 1 ≤ b) W s (.agg #[.slice a7 s.init.length k7, .slice a8 s.procs.length k8])) FF.out ?_
  clear FF
  rintro W0 ⟨b4, b6, c2, c3, hB1, hs⟩
  obtain ⟨P4, hP4⟩ : ∃ P, P = w1.heap.size := ⟨_, rfl⟩
  obtain ⟨P6, hP6⟩ : ∃ P, P = w1.heap.size + 1 + 1 := ⟨_, rfl⟩
  rw [← hP6] at b6 ⊢
  rw [← hP4] at b4 ⊢
  have hq4 : w.heap.size + 1 < P4 := by omega
  have hq6 : P4 < P6 := by omega
  clear hP4 hP6 hw1
  have hd := below_d (Below.refl W0.heap.size W0)
  have K := hid ((KeepP.below (S := [P4, P6]) hd).set (a := ⟨w.heap.size, 0, none⟩) (by simp; omega) (.slice a7 s.init.length k7) |>.set (a := ⟨w.heap.size, 1, none⟩) (by simp; omega) (.slice a8 s.procs.length k8))
  have C2 := boxp_next hd c2
  have C3 := box4_next hd c3
  have n01 : w.heap.size ≠ w.heap.size + 1 := by omega
  have X2 := boxp_set (boxp_set (boxp_set (boxp_set (boxp_set1 (boxp_set0 C2 (.slice a7 s.init.length k7)) (.slice a8 s.procs.length k8)) (p := ⟨w.heap.size + 1, 0, none⟩) n01 (.int .i64 p)) (p := ⟨w.heap.size + 1, 1, none⟩) n01 (.int .i64 e)) (p := ⟨w.heap.size + 1, 2, none⟩) n01 (.int .i64 q)) (p := ⟨w.heap.size + 1, 3, none⟩) n01 (.int .i64 f)
  have X3 := box4_set (w := (W0.drew.setCell ⟨w.heap.size, 0, none⟩ (.slice a7 s.init.length k7)).setCell ⟨w.heap.size, 1, none⟩ (.slice a8 s.procs.length k8)) (box4_block (by simp) ((Below.heap_setCell _ _ _ _ (Ne.symm n01)).trans (Below.heap_setCell _ _ _ _ (Ne.symm n01))) C3) (.int .i64 p) (.int .i64 e) (.int .i64 q) (.int .i64 f)
  have BF := hid (Below.setCell (Below.setCell (Below.setCell (Below.setCell (below_set2 (below_next hB1 hd) (Nat.le_refl w.heap.size) (.slice a7 s.init.length k7) (.slice a8 s.procs.length k8)) (show w.heap.size ≤ (⟨w.heap.size + 1, 0, none⟩ : Addr).block by simp) (.int .i64 p)) (show w.heap.size ≤ (⟨w.heap.size + 1, 1, none⟩ : Addr).block by simp) (.int .i64 e)) (show w.heap.size ≤ (⟨w.heap.size + 1, 2, none⟩ : Addr).block by simp) (.int .i64 q)) (show w.heap.size ≤ (⟨w.heap.size + 1, 3, none⟩ : Addr).block by simp) (.int .i64 f))
  have SF := hid ((hs.below hd).frame (q := fun b => w.heap.size ≤ b) (w' := (((((W0.drew.setCell ⟨w.heap.size, 0, none⟩ (.slice a7 s.init.length k7)).setCell ⟨w.heap.size, 1, none⟩ (.slice a8 s.procs.length k8)).setCell ⟨w.heap.size + 1, 0, none⟩ (.int .i64 p)).setCell ⟨w.heap.size + 1, 1, none⟩ (.int .i64 e)).setCell ⟨w.heap.size + 1, 2, none⟩ (.int .i64 q)).setCell ⟨w.heap.size + 1, 3, none⟩ (.int .i64 f)) (by simp) (fun b hb hl => by
    have m0 : b ≠ w.heap.size := by have := hb; omega
    have m1 : b ≠ w.heap.size + 1 := by have := hb; omega
    exact ⟨by have := hb; omega, (Below.heap_setCell _ _ _ _ m1).trans ((Below.heap_setCell _ _ _ _ m1).trans ((Below.heap_setCell _ _ _ _ m1).trans ((Below.heap_setCell _ _ _ _ m1).trans ((Below.heap_setCell _ _ _ _ m0).trans (Below.heap_setCell _ _ _ _ m0)))))⟩))
  have T2 := hid X2
  have T3 := hid X3
  obtain ⟨z0, z1, z2, z3, z4⟩ := boxp_next hd c2
  obtain ⟨u0, ⟨u1, u2, u3, u4⟩, uf⟩ := box4_next hd c3
  obtain ⟨x0, x1, x2, x3, x4⟩ := b4
  obtain ⟨y0, ⟨y1, y2, y3, y4⟩, _⟩ := b6
  clear c2 c3
  have uf0 := uf 0
  have uf1 := uf 1
  have uf2 := uf 2
  have uf3 := uf 3
  clear X2 X3 C2 C3 hd hB1 hs uf
  refine wp_region_ord (C := fun wZ => ∃ xZ, wZ = World.overP _ ([P4, P6]) xZ) [0,1] (.one 2 (.fre 3 .done)) [3] (by kernel_rfl) (by kernel_rfl) (fun d _ _ _ _ h => by cases d <;> exact h) (KeepP.refl _ _).drew.ex ?_; simp only [pick, List.getElem?_cons_succ, List.getElem?_cons_zero]; (repeat (go_big_quiet_step (fail))); refine wpQuiet_nil ?_; simp only [ordW, pick, List.getElem?_cons_succ, List.getElem?_cons_zero]
  generalize W0.drew = Wd at *
  go_wp2_with fail
  refine ⟨K.out.ex, ?_⟩
  go_wp2_with fail
  obtain ⟨_, t0, t1, _, _⟩ := T2.out
  obtain ⟨_, ⟨s0, s1, s2, s3⟩, _⟩ := T3.out
  refine bodyPost_ret (v := .tuple #[.agg #[.slice a7 s.init.length k7, .slice a8 s.procs.length k8], .agg #[.int .i64 p, .int .i64 e, .int .i64 q, .int .i64 f]]) (by simp [results, Try.results29, go_sem, t0, t1, s0, s1, s2, s3]) rfl ?_
  exact RetP.mk ⟨_, s, p, e, q, f, rfl, SF.out, hbn⟩ BF.out
end Go.Proofs.Ytffadknollkgiaa
