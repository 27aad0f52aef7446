/- The reference's DrawStateValid, DrawEnabledSteps: a system and a state. Conditions: those of each contract. -/
import Derived.Test.YtffadknollkgiaazStDraw
set_option linter.unusedVariables false
set_option linter.unusedSimpArgs false
namespace Go.Proofs.Ytffadknollkgiaa
open Go.RowKit
open Go.Proofs.Ytffadknollkgiaa.State (PairIn)
open Go.Proofs.Ytffadknollkgiaa.Sys
set_option linter.unusedVariables false
set_option linter.unusedSimpArgs false

/-- what the laws' system and state come to -/
def DsPost (w : World) (v : Value) (w' : World) : Prop := ∃ x y s ls vs, v = .tuple #[x, y] ∧ SyIn (fun b => w.heap.size ≤ b) w' s x ∧ Bnd 992 6 s ∧ PairIn (fun b => w.heap.size ≤ b) w' ls vs y ∧ ls.length ≤ 90 ∧ vs.length ≤ 90

set_option maxRecDepth 100000 in
set_option maxHeartbeats 4000000 in
theorem drawStValid_any (w : World) (a : Option Addr) (len cap : Nat) (hb : ByteArg w a len cap) : Calls Try.prog 61 #[.slice a len cap] w (RetP (DsPost w) w) := by
  go_enter Try.func61, Try.ntmps61
  go_wp2_with fail
  have k0 := below_next (below_alloc w (.cells #[.slice none 0 0, .slice none 0 0] 36)) (below_alloc _ (.cells #[.slice none 0 0, .slice none 0 0] 50))
  refine (open_any _ a len cap (hb.next k0)).mono ?_
  rintro e w1 ⟨v, rfl, ⟨R, B, rfl, hR, hr⟩, hb1⟩
  have c2 := boxp_next hb1 (boxp_next (below_alloc _ (.cells #[.slice none 0 0, .slice none 0 0] 50)) (boxp_at (w := w) (a := .slice none 0 0) (b := .slice none 0 0) (t := 36) rfl))
  have c3 := boxp_next hb1 (boxp_at (w := w.alloc (.cells #[.slice none 0 0, .slice none 0 0] 36)) (B := w.heap.size + 1) (a := .slice none 0 0) (b := .slice none 0 0) (t := 50) (by simp))
  have B1 := below_next k0 hb1
  simp at hR
  clear hb1 k0 hb
  go_wp2_with fail
  refine (drawSys_any w1 R B 0 hr (by omega)).mono ?_
  rintro e w2 ⟨v, s, p2, rfl, hs, hbn, hni, hb2, hr2, hp2⟩
  replace c2 := boxp_but hb2 (by omega) c2
  replace c3 := boxp_but hb2 (by omega) c3
  replace B1 := hb2.new B1 (by omega)
  have hRB := hr2.lt
  have hRw := hr.lt
  obtain ⟨a1, k1, a2, k2, rfl⟩ := hs.shape
  have h0 := below_alloc w2 (.cells #[.slice a1 s.init.length k1, .slice a2 s.procs.length k2] 36)
  have FF := hid (And.intro (boxp_next h0 c2) (And.intro (boxp_next h0 c3) (And.intro (below_next B1 h0) (And.intro (hr2.next h0) ((hs.mono (q := fun b => w.heap.size + 1 < b ∧ b ≠ R) (fun b hb => ⟨by have := hb; have := c3.1; omega, by have := hb; omega⟩)).below h0)))))
  have HBX := hid (boxp_at (w := w2) (a := .slice a1 s.init.length k1) (b := .slice a2 s.procs.length k2) (t := 36) rfl)
  have hw2 := c3.1
  have HNI := hid hni
  have HBN := hid hbn
  clear hb2 hr c2 c3 B1 hr2 hs h0 hni hbn
  go_upto_region 3 with fail
  obtain ⟨O, hO⟩ : ∃ O, O = w2.heap.size := ⟨_, rfl⟩
  rw [← hO] at HBX
  rw [← hO]
  have hRO : R < O := by omega
  have hwO : w.heap.size + 1 < O := by omega
  refine wp_gen (fun W => BoxP W O (.slice a1 s.init.length k1) (.slice a2 s.procs.length k2) ∧ BoxP W w.heap.size (.slice none 0 0) (.slice none 0 0) ∧ BoxP W (w.heap.size + 1) (.slice none 0 0) (.slice none 0 0) ∧ Below w.heap.size w W ∧ Rd B W R p2 ∧ SyIn (fun b => w.heap.size + 1 < b ∧ b ≠ R) W s (.agg #[.slice a1 s.init.length k1, .slice a2 s.procs.length k2])) ⟨HBX.out, FF.out⟩ ?_
  clear FF HBX hO
  rintro W0 ⟨bO, c2, c3, B1, hr2, hs⟩
  obtain ⟨x0, x1, x2, x3, x4⟩ := id bO
  go_wp2_with fail
  refine (drawSt_any s W0 _ R B p2 (hs.mono (fun b hb => hb.2)) hr2 (by omega)).mono ?_
  rintro e w3 ⟨v, l3, m3, p3, rfl, hp3, hn3, hl3, hm3, hb3, hr3, hpp3⟩
  obtain ⟨a3, a4, k3, k4, rfl, _⟩ := id hp3
  replace bO := boxp_but hb3 (by omega) bO
  have hO3 := bO.1
  replace c2 := boxp_but hb3 (by omega) c2
  replace c3 := boxp_but hb3 (by omega) c3
  replace B1 := hb3.new B1 (by omega)
  replace hs := hs.frame (q := fun b => w.heap.size + 1 < b ∧ b ≠ R) hb3.size (fun b hb hl => ⟨hb, hb3.block b hl hb.2⟩)
  clear hb3 hr2 x0 x1 x2 x3 x4
  go_wp2_with fail
  refine (mutSt_any w3 R B p3 l3 m3 _ (PairIn_frame (q := Any) hp3 (Nat.le_refl _) (fun _ _ _ => ⟨trivial, rfl⟩)) hn3 hl3 hm3 hr3 (by omega)).mono ?_
  rintro e w4 ⟨v, l4, m4, p4, rfl, hp4, hn4, hl4, hm4, hb4, hr4, hpp4⟩
  obtain ⟨a5, a6, k5, k6, rfl, _⟩ := id hp4
  replace bO := boxp_but hb4 (by omega) bO
  replace c2 := boxp_but hb4 (by omega) c2
  replace c3 := boxp_but hb4 (by omega) c3
  replace B1 := hb4.new B1 (by omega)
  replace hs := hs.frame (q := fun b => w.heap.size + 1 < b ∧ b ≠ R) hb4.size (fun b hb hl => ⟨hb, hb4.block b hl hb.2⟩)
  have hw3 := bO.1
  have hs34 := hb4.size
  have h0 := below_alloc w4 (.cells #[.slice a5 l4.length k5, .slice a6 m4.length k6] 50)
  have hp5 := (PairIn_frame (q := fun b => w.heap.size + 1 < b ∧ b ≠ R) hp4 (Nat.le_refl _) (fun b hb _ => ⟨⟨by have := hb; omega, by have := hb; omega⟩, rfl⟩)).below h0
  have FF := hid (And.intro (boxp_next h0 bO) (And.intro (boxp_next h0 c2) (And.intro (boxp_next h0 c3) (And.intro (below_next B1 h0) (And.intro (hr4.next h0) (And.intro (hs.below h0) hp5))))))
  have HBX := hid (boxp_at (w := w4) (a := .slice a5 l4.length k5) (b := .slice a6 m4.length k6) (t := 50) rfl)
  clear hb4 hr3 hr4 hs bO c2 c3 B1 h0 hp5 hp4 hn4 hp3 hn3
  go_upto_region 4 with fail
  obtain ⟨Q, hQ⟩ : ∃ Q, Q = w4.heap.size := ⟨_, rfl⟩
  rw [← hQ] at HBX
  rw [← hQ]
  have hQO : O < Q := by omega
  refine wp_gen (fun W => BoxP W Q (.slice a5 l4.length k5) (.slice a6 m4.length k6) ∧ BoxP W O (.slice a1 s.init.length k1) (.slice a2 s.procs.length k2) ∧ BoxP W w.heap.size (.slice none 0 0) (.slice none 0 0) ∧ BoxP W (w.heap.size + 1) (.slice none 0 0) (.slice none 0 0) ∧ Below w.heap.size w W ∧ Rd B W R p4 ∧ SyIn (fun b => w.heap.size + 1 < b ∧ b ≠ R) W s (.agg #[.slice a1 s.init.length k1, .slice a2 s.procs.length k2]) ∧ PairIn (fun b => w.heap.size + 1 < b ∧ b ≠ R) W l4 m4 (.agg #[.slice a5 l4.length k5, .slice a6 m4.length k6])) ⟨HBX.out, FF.out⟩ ?_
  clear FF HBX hQ
  rintro W1 ⟨bQ, bO, c2, c3, B1, hr2, hs, hp5⟩
  obtain ⟨x0, x1, x2, x3, x4⟩ := id bO
  obtain ⟨y0, y1, y2, y3, y4⟩ := id bQ
  have hd := below_d (Below.refl W1.heap.size W1)
  have hW1 := B1.size
  have hdz := hd.size
  have hbO1 := bO.1
  have K := hid ((KeepP.refl [O, Q] W1).drew)
  refine wp_region_ord (C := fun wZ => ∃ xZ, wZ = World.overP _ ([O, Q]) xZ) [0,1,3] (.one 2 (.one 4 (.fre 5 .done))) [5] (by kernel_rfl) (by kernel_rfl) (fun d _ _ _ _ h => by cases d <;> exact h) (KeepP.refl _ _).drew.ex ?_; simp only [pick, List.getElem?_cons_succ, List.getElem?_cons_zero]; (repeat (go_big_quiet_step (fail))); refine wpQuiet_nil ?_; simp only [ordW, pick, List.getElem?_cons_succ, List.getElem?_cons_zero]
  go_wp2_with fail
  refine (mutSys_any s W1.drew _ R B p4 31 5 ((hs.mono (fun b _ => trivial)).below hd) HNI.out HBN.out (by omega) (by omega) (hr2.next hd) (by omega)).mono ?_
  rintro e w5 ⟨v, s', p5, rfl, hs', ⟨hbn', _⟩, _, hb5, hr5, hpp5⟩
  obtain ⟨a7, k7, a8, k8, rfl⟩ := hs'.shape
  have K5 := hid (K.out.trans (KeepP.but hb5 (by simp; omega)))
  have C2 := boxp_but hb5 (by omega) (boxp_next hd c2)
  have C3 := boxp_but hb5 (by omega) (boxp_next hd c3)
  have B5 := hb5.new (below_next B1 hd) (by omega)
  have hp6 := PairIn_frame (q := fun b => w.heap.size + 1 < b) (hp5.below hd) hb5.size (fun b hb hl => ⟨hb.1, hb5.block b hl hb.2⟩)
  have hsz := B5.size
  have hw5 := C3.1
  have K6 := hid ((K5.out.set (a := ⟨w.heap.size, 0, none⟩) (by simp; omega) (.slice a7 s'.init.length k7)).set (a := ⟨w.heap.size, 1, none⟩) (by simp; omega) (.slice a8 s'.procs.length k8))
  have HF := hid (show DsPost w (.tuple #[.agg #[.slice a7 s'.init.length k7, .slice a8 s'.procs.length k8], .agg #[.slice a5 l4.length k5, .slice a6 m4.length k6]]) ((((w5.setCell ⟨w.heap.size, 0, none⟩ (.slice a7 s'.init.length k7)).setCell ⟨w.heap.size, 1, none⟩ (.slice a8 s'.procs.length k8)).setCell ⟨w.heap.size + 1, 0, none⟩ (.slice a5 l4.length k5)).setCell ⟨w.heap.size + 1, 1, none⟩ (.slice a6 m4.length k6)) from
    ⟨_, _, s', l4, m4, rfl, hs'.frame (by simp) (fun b hb hl => ⟨by have := hb; omega, (Below.heap_setCell _ _ _ _ (show b ≠ w.heap.size + 1 by have := hb; have := hd.size; omega)).trans ((Below.heap_setCell _ _ _ _ (show b ≠ w.heap.size + 1 by have := hb; have := hd.size; omega)).trans ((Below.heap_setCell _ _ _ _ (show b ≠ w.heap.size by have := hb; have := hd.size; omega)).trans (Below.heap_setCell _ _ _ _ (show b ≠ w.heap.size by have := hb; have := hd.size; omega))))⟩), hbn',
      PairIn_frame hp6 (by simp) (fun b hb hl => ⟨by have := hb; omega, (Below.heap_setCell _ _ _ _ (show b ≠ w.heap.size + 1 by have := hb; omega)).trans ((Below.heap_setCell _ _ _ _ (show b ≠ w.heap.size + 1 by have := hb; omega)).trans ((Below.heap_setCell _ _ _ _ (show b ≠ w.heap.size by have := hb; omega)).trans (Below.heap_setCell _ _ _ _ (show b ≠ w.heap.size by have := hb; omega))))⟩), hl4, hm4⟩)
  have HBl := hid (below_set2 (below_set2 B5 (Nat.le_refl w.heap.size) (.slice a7 s'.init.length k7) (.slice a8 s'.procs.length k8)) (Nat.le_succ w.heap.size) (.slice a5 l4.length k5) (.slice a6 m4.length k6))
  have T2 := hid (boxp_set (boxp_set (boxp_set1 (boxp_set0 C2 (.slice a7 s'.init.length k7)) (.slice a8 s'.procs.length k8)) (p := ⟨w.heap.size + 1, 0, none⟩) (show w.heap.size ≠ w.heap.size + 1 by omega) (.slice a5 l4.length k5)) (p := ⟨w.heap.size + 1, 1, none⟩) (show w.heap.size ≠ w.heap.size + 1 by omega) (.slice a6 m4.length k6))
  have T3 := hid (boxp_set1 (boxp_set0 (boxp_set (boxp_set C3 (p := ⟨w.heap.size, 0, none⟩) (show w.heap.size + 1 ≠ w.heap.size by omega) (.slice a7 s'.init.length k7)) (p := ⟨w.heap.size, 1, none⟩) (show w.heap.size + 1 ≠ w.heap.size by omega) (.slice a8 s'.procs.length k8)) (.slice a5 l4.length k5)) (.slice a6 m4.length k6))
  clear hb5 hr5 hs' hs hp5 hp6 B5 B1 bO bQ c2 c3 hd K x0 x1 x2 x3 x4 y0 y1 y2 y3 y4
  obtain ⟨x0, x1, x2, x3, x4⟩ := C2
  obtain ⟨y0, y1, y2, y3, y4⟩ := C3
  go_wp2_with fail
  refine ⟨K5.out.ex, ?_⟩
  go_wp2_with fail
  refine ⟨K6.out.ex, ?_⟩
  go_wp2_with fail
  obtain ⟨_, t0, t1, _, _⟩ := T2.out
  obtain ⟨_, u0, u1, _, _⟩ := T3.out
  refine bodyPost_ret (v := .tuple #[.agg #[.slice a7 s'.init.length k7, .slice a8 s'.procs.length k8], .agg #[.slice a5 l4.length k5, .slice a6 m4.length k6]]) (by simp [results, Try.results61, go_sem, t0, t1, u0, u1]) rfl ?_
  exact RetP.mk HF.out HBl.out

set_option maxRecDepth 100000 in
set_option maxHeartbeats 4000000 in
theorem drawEnab_any (w : World) (a : Option Addr) (len cap : Nat) (hb : ByteArg w a len cap) : Calls Try.prog 32 #[.slice a len cap] w (RetP (DsPost w) w) := by
  go_enter Try.func32, Try.ntmps32
  go_wp2_with fail
  have k0 := below_next (below_alloc w (.cells #[.slice none 0 0, .slice none 0 0] 36)) (below_alloc _ (.cells #[.slice none 0 0, .slice none 0 0] 50))
  refine (drawStValid_any _ a len cap (hb.next k0)).mono ?_
  rintro e w1 ⟨v, rfl, ⟨x, y, s, ls, vs, rfl, hs, hbn, hp, hl, hm⟩, hb1⟩
  have C2 := boxp_next hb1 (boxp_next (below_alloc _ (.cells #[.slice none 0 0, .slice none 0 0] 50)) (boxp_at (w := w) (a := .slice none 0 0) (b := .slice none 0 0) (t := 36) rfl))
  have C3 := boxp_next hb1 (boxp_at (w := w.alloc (.cells #[.slice none 0 0, .slice none 0 0] 36)) (B := w.heap.size + 1) (a := .slice none 0 0) (b := .slice none 0 0) (t := 50) (by simp))
  have B1 := below_next k0 hb1
  simp only [World.size_alloc] at hs hp
  obtain ⟨a7, k7, a8, k8, rfl⟩ := hs.shape
  obtain ⟨a5, a6, k5, k6, rfl, _⟩ := id hp
  have HF := hid (show DsPost w (.tuple #[.agg #[.slice a7 s.init.length k7, .slice a8 s.procs.length k8], .agg #[.slice a5 ls.length k5, .slice a6 vs.length k6]]) ((((w1.setCell ⟨w.heap.size, 0, none⟩ (.slice a7 s.init.length k7)).setCell ⟨w.heap.size, 1, none⟩ (.slice a8 s.procs.length k8)).setCell ⟨w.heap.size + 1, 0, none⟩ (.slice a5 ls.length k5)).setCell ⟨w.heap.size + 1, 1, none⟩ (.slice a6 vs.length k6)) from
    ⟨_, _, s, ls, vs, rfl, hs.frame (by simp) (fun b hb hl => ⟨by have := hb; omega, (Below.heap_setCell _ _ _ _ (show b ≠ w.heap.size + 1 by have := hb; omega)).trans ((Below.heap_setCell _ _ _ _ (show b ≠ w.heap.size + 1 by have := hb; omega)).trans ((Below.heap_setCell _ _ _ _ (show b ≠ w.heap.size by have := hb; omega)).trans (Below.heap_setCell _ _ _ _ (show b ≠ w.heap.size by have := hb; omega))))⟩), hbn,
      PairIn_frame hp (by simp) (fun b hb hl => ⟨by have := hb; omega, (Below.heap_setCell _ _ _ _ (show b ≠ w.heap.size + 1 by have := hb; omega)).trans ((Below.heap_setCell _ _ _ _ (show b ≠ w.heap.size + 1 by have := hb; omega)).trans ((Below.heap_setCell _ _ _ _ (show b ≠ w.heap.size by have := hb; omega)).trans (Below.heap_setCell _ _ _ _ (show b ≠ w.heap.size by have := hb; omega))))⟩), hl, hm⟩)
  have HBl := hid (below_set2 (below_set2 B1 (Nat.le_refl w.heap.size) (.slice a7 s.init.length k7) (.slice a8 s.procs.length k8)) (Nat.le_succ w.heap.size) (.slice a5 ls.length k5) (.slice a6 vs.length k6))
  have T2 := hid (boxp_set (boxp_set (boxp_set1 (boxp_set0 C2 (.slice a7 s.init.length k7)) (.slice a8 s.procs.length k8)) (p := ⟨w.heap.size + 1, 0, none⟩) (show w.heap.size ≠ w.heap.size + 1 by omega) (.slice a5 ls.length k5)) (p := ⟨w.heap.size + 1, 1, none⟩) (show w.heap.size ≠ w.heap.size + 1 by omega) (.slice a6 vs.length k6))
  have T3 := hid (boxp_set1 (boxp_set0 (boxp_set (boxp_set C3 (p := ⟨w.heap.size, 0, none⟩) (show w.heap.size + 1 ≠ w.heap.size by omega) (.slice a7 s.init.length k7)) (p := ⟨w.heap.size, 1, none⟩) (show w.heap.size + 1 ≠ w.heap.size by omega) (.slice a8 s.procs.length k8)) (.slice a5 ls.length k5)) (.slice a6 vs.length k6))
  clear hb1 hs hp B1 k0 hb
  obtain ⟨x0, x1, x2, x3, x4⟩ := C2
  obtain ⟨y0, y1, y2, y3, y4⟩ := C3
  go_wp2_with fail
  obtain ⟨_, t0, t1, _, _⟩ := T2.out
  obtain ⟨_, u0, u1, _, _⟩ := T3.out
  refine bodyPost_ret (v := .tuple #[.agg #[.slice a7 s.init.length k7, .slice a8 s.procs.length k8], .agg #[.slice a5 ls.length k5, .slice a6 vs.length k6]]) (by simp [results, Try.results32, go_sem, t0, t1, u0, u1]) rfl ?_
  exact RetP.mk HF.out HBl.out
end Go.Proofs.Ytffadknollkgiaa
