/- FnExactIsDeadlock returns true for every system and every state. Conditions: none. -/
import Derived.Test.YtchlpeflfiecdaaStepsB
import Derived.Test.YtchlpeflfiecdaaRegOrd
import Derived.Test.YtchlpeflfiecdaaSysEq
import Derived.Test.YtchlpeflfiecdaaSysTo2
import Derived.Test.YtchlpeflfiecdaaLawSysValid
import Derived.Deep.RegionHeld3
namespace Go.Proofs.Ytchlpeflfiecdaa
open Go.RowKit
open Go.Proofs.Ytchlpeflfiecdaa.Sys
set_option linter.unusedVariables false

set_option maxRecDepth 100000 in
set_option maxHeartbeats 4000000 in
theorem walk_FnExactIsDeadlock (t : Sy) (s l : List Int) (w : World) (x y : Value) (hx : SyIn Any w t x) (hy : State.PairIn Any w s l y) : Calls Try.prog 11 #[x, y] w (Ret (.bool true) w) := by
  have HX := hid hx
  have HY := hid hy
  obtain ⟨a, c, b, d, rfl⟩ := hx.shape
  obtain ⟨a', b', c', d', rfl, h1, h2, _⟩ := hy
  have hI := hid (And.intro h1.2 h2.2)
  have hbd := Sys.szS_bd t 1048576 (by omega) (by omega)
  have hbd2 := State.szP_bd (l := s) (m := l) (left := Sys.szS t 1048576) hbd.2
  have HSZ := hid (fun (W : World) (M : Below w.heap.size w W) => Sys.szS_any t W _ 1048576 (HX.out.below M) (by omega) (by omega))
  have HSF := hid (fun (W : World) (M : Below w.heap.size w W) => State.sz_any s l W _ (Sys.szS t 1048576) (HY.out.below M) hbd.2 hbd.1)
  have HS1 := hid (fun (h : 0 ≤ Sys.szS t 1048576) => Sys.small_of_sz t h)
  have HS2 := hid (fun (h : 0 ≤ State.szP s l (Sys.szS t 1048576)) => State.szP_len hbd.2 h)
  generalize Sys.szS t 1048576 = g at *
  generalize State.szP s l g = g2 at *
  clear hx h1 h2
  by_cases k1 : g < 0
  · go_enter Try.func11, Try.ntmps11
    go_wp2_with fail
    refine (HSZ.out _ (by repeat (first | exact Below.refl _ _ | assumption | refine below_a ?_ _ | refine below_o ?_ _ | refine below_d ?_ | refine below_n ?_ _ | refine below_s ?_ (by first | (simp; done) | (simp; omega) | omega) _))).mono ?_
    rintro e w1 ⟨rfl, hb⟩
    go_wp2_with fail
    go_ret
    exact Ret.mk rfl (below_next (by repeat (first | exact Below.refl _ _ | assumption | refine below_a ?_ _ | refine below_o ?_ _ | refine below_d ?_ | refine below_n ?_ _ | refine below_s ?_ (by first | (simp; done) | (simp; omega) | omega) _)) hb)
  by_cases k2 : g2 < 0
  · go_enter Try.func11, Try.ntmps11
    go_wp2_with fail
    refine (HSZ.out _ (by repeat (first | exact Below.refl _ _ | assumption | refine below_a ?_ _ | refine below_o ?_ _ | refine below_d ?_ | refine below_n ?_ _ | refine below_s ?_ (by first | (simp; done) | (simp; omega) | omega) _))).mono ?_
    rintro e w1 ⟨rfl, hb⟩
    obtain ⟨q0, q1, q2, _⟩ := Sys.box2_next hb (Sys.box2_at (w := w.alloc _) (B := w.heap.size + 1) (a := .slice a' s.length c') (b := .slice b' l.length d') (t := 58) (by simp))
    have B1 := hid (below_next (show Below w.heap.size w _ from below_next (below_alloc _ _) (below_alloc _ _)) hb)
    clear hb
    go_wp2_with fail
    refine (HSF.out _ B1.out).mono ?_
    rintro e w2 ⟨rfl, hb⟩
    go_wp2_with fail
    go_ret
    exact Ret.mk rfl (below_next B1.out hb)
  have hsm := hid (HS1.out (by omega))
  have hl := hid (HS2.out (by omega))
  clear HS1 HS2
  go_enter Try.func11, Try.ntmps11
  go_wp2_with fail
  refine (HSZ.out _ (by repeat (first | exact Below.refl _ _ | assumption | refine below_a ?_ _ | refine below_o ?_ _ | refine below_d ?_ | refine below_n ?_ _ | refine below_s ?_ (by first | (simp; done) | (simp; omega) | omega) _))).mono ?_
  rintro e w1 ⟨rfl, hb⟩
  have P := hid (Sys.box2_next hb (Sys.box2_next (below_alloc _ _) (Sys.box2_at (w := w) (a := .slice a t.init.length c) (b := .slice b t.procs.length d) (t := 40) rfl)))
  have Q := hid (Sys.box2_next hb (Sys.box2_at (w := w.alloc _) (B := w.heap.size + 1) (a := .slice a' s.length c') (b := .slice b' l.length d') (t := 58) (by simp)))
  have B := hid (below_next (show Below w.heap.size w _ from below_next (below_alloc _ _) (below_alloc _ _)) hb)
  clear hb
  obtain ⟨q0, q1, q2, _⟩ := id Q.out
  go_wp2_with fail
  refine (HSF.out _ B.out).mono ?_
  rintro e w2 ⟨rfl, hb⟩
  replace P := hid (Sys.box2_next hb P.out)
  replace Q := hid (Sys.box2_next hb Q.out)
  replace B := hid (below_next B.out hb)
  clear hb q0 q1 q2 HSZ HSF
  obtain ⟨p0, p1, p2, _⟩ := id P.out
  obtain ⟨q0, q1, q2, _⟩ := id Q.out
  go_wp2_with fail
  refine wp_region_ord (C := fun wZ => ∃ xZ, wZ = World.over _ xZ) [0,2] (.one 1 (.one 3 (.one 4 (.one 5 .done)))) [] (by kernel_rfl) (by kernel_rfl) (fun d _ _ _ _ h => by cases d <;> exact h) (bex (Below.refl _ _).drew) ?_; simp only [pick, List.getElem?_cons_succ, List.getElem?_cons_zero]; (repeat (go_big_quiet_step (fail))); refine wpQuiet_nil ?_; simp only [ordW, pick, List.getElem?_cons_succ, List.getElem?_cons_zero]
  have Bd := hid (below_d B.out)
  replace P := hid (Sys.box2_next (below_d (Below.refl _ _)) P.out)
  replace Q := hid (Sys.box2_next (below_d (Below.refl _ _)) Q.out)
  have C0 := hid (below_d (Below.refl w2.heap.size w2))
  clear p0 p1 p2 q0 q1 q2 B
  go_wp2_with fail
  refine (Sys.toS_any t _ _ (HX.out.below Bd.out) hsm.out).mono ?_
  rintro e w3 ⟨v1, rfl, hn1, hb⟩
  have N1 := hid (NewSy_any hn1)
  have C3 := hid (below_next C0.out hb)
  replace P := hid (Sys.box2_next hb P.out)
  replace Q := hid (Sys.box2_next hb Q.out)
  have B := hid (below_next Bd.out hb)
  clear hb hn1 Bd
  go_wp2_with fail
  refine ⟨bex C3.out, ?_⟩
  go_wp2_with fail
  refine (State.to_any s l _ _ (HY.out.below B.out) hl.out.1 hl.out.2).mono ?_
  rintro e w4 ⟨v2, rfl, hn2, hb⟩
  have N2 := hid (hn2.any hI.out.1 hI.out.2 (Nat.le_trans hl.out.1 (by unfold maxLen; omega)) (Nat.le_trans hl.out.2 (by unfold maxLen; omega)))
  have C4 := hid (below_next C3.out hb)
  replace N1 := hid (N1.out.below hb)
  replace P := hid (Sys.box2_next hb P.out)
  replace Q := hid (Sys.box2_next hb Q.out)
  replace B := hid (below_next B.out hb)
  clear hb hn2
  go_wp2_with fail
  refine ⟨bex C4.out, ?_⟩
  go_wp2_with fail
  refine (Sys.specDead_any t s l _ _ _ N1.out N2.out).mono ?_
  rintro e w5 ⟨rfl, hb⟩
  have C5 := hid (below_next C4.out hb)
  replace P := hid (Sys.box2_next hb P.out)
  replace Q := hid (Sys.box2_next hb Q.out)
  replace B := hid (below_next B.out hb)
  clear hb N1 N2
  go_wp2_with fail
  refine ⟨bex C5.out, ?_⟩
  go_wp2_with fail
  refine ⟨bex C5.out, ?_⟩
  clear C0 C3 C4 C5
  obtain ⟨p0, p1, p2, _⟩ := id P.out
  go_wp2_with fail
  refine (Sys.toS_any t _ _ (HX.out.below B.out) hsm.out).mono ?_
  rintro e w6 ⟨v1, rfl, hn1, hb⟩
  have N1 := hid (NewSy_any hn1)
  obtain ⟨a2, c2, b2, d2, rfl⟩ := N1.out.shape
  replace P := hid (Sys.box2_next hb P.out)
  replace Q := hid (Sys.box2_next hb Q.out)
  replace B := hid (below_next B.out hb)
  clear hb hn1 p0 p1 p2
  obtain ⟨q0, q1, q2, _⟩ := id Q.out
  go_wp2_with fail
  refine (State.to_any s l _ _ (HY.out.below (by exact below_next B.out (below_alloc _ _))) hl.out.1 hl.out.2).mono ?_
  rintro e w7 ⟨v2, rfl, hn2, hb⟩
  have X0 := hid (Sys.box2_next hb (Sys.box2_at (w := w6) (a := .slice a2 t.init.length c2) (b := .slice b2 t.procs.length d2) (t := 45) rfl))
  replace hb := below_next (below_alloc _ _) hb
  have N2 := hid (hn2.any hI.out.1 hI.out.2 (Nat.le_trans hl.out.1 (by unfold maxLen; omega)) (Nat.le_trans hl.out.2 (by unfold maxLen; omega)))
  obtain ⟨r3, r4, rfl, _⟩ := hn2
  replace N1 := hid (N1.out.below hb)
  replace P := hid (Sys.box2_next hb P.out)
  replace Q := hid (Sys.box2_next hb Q.out)
  replace B := hid (below_next B.out hb)
  clear hb q0 q1 q2
  obtain ⟨x0, x1, x2, _⟩ := id X0.out
  go_wp2_with fail
  refine (Sys.dead_any t s l _ _ _ (N1.out.below (below_alloc _ _)) (N2.out.below (below_alloc _ _))).mono ?_
  rintro e w8 ⟨rfl, hb⟩
  have X1 := hid (Sys.box2_next hb (Sys.box2_at (w := w7) (a := .slice (some ⟨r3, 0, none⟩) s.length s.length) (b := .slice (some ⟨r4, 0, none⟩) l.length l.length) (t := 62) rfl))
  replace hb := below_next (below_alloc _ _) hb
  replace X0 := hid (Sys.box2_next hb X0.out)
  replace N1 := hid (N1.out.below hb)
  replace N2 := hid (N2.out.below hb)
  replace P := hid (Sys.box2_next hb P.out)
  replace Q := hid (Sys.box2_next hb Q.out)
  replace B := hid (below_next B.out hb)
  clear hb x0 x1 x2
  have c1 : (Sys.deadB t s l != Sys.deadB t s l) = false := by simp
  generalize Sys.deadB t s l = sv at *
  go_wp2_with fail
  have h1 := Sys.box2_next (below_d (Below.refl _ _)) P.out
  have h2 := Sys.box2_next (below_d (Below.refl _ _)) X0.out
  have Bd := below_d B.out
  have hm := N1.out.below (below_d (Below.refl _ _))
  go_region_held3 (fun w' => w'.cell? ⟨w.heap.size, 0, none⟩ = some (.slice a t.init.length c) ∧ w'.cell? ⟨w.heap.size, 1, none⟩ = some (.slice b t.procs.length d) ∧ w'.cell? ⟨w6.heap.size, 0, none⟩ = some (.slice a2 t.init.length c2) ∧ w'.cell? ⟨w6.heap.size, 1, none⟩ = some (.slice b2 t.procs.length d2))
    (first | exact ⟨h1.2.1, h1.2.2.1, h2.2.1, h2.2.2.1⟩ | exact ⟨k1.2.1, k1.2.2.1, k2.2.1, k2.2.2.1⟩ | exact ⟨l1.2.1, l1.2.2.1, l2.2.1, l2.2.2.1⟩)
    (first
      | (go_at_call 19; have HT := Sys.toS_any t _ _ (HX.out.below Bd) hsm.out; refine HT.mono ?_; clear HT; rintro e w9 ⟨v3, rfl, hn3, hb⟩; have N3 := hid (NewSy_any hn3); obtain ⟨a3, c3, b3, d3, rfl⟩ := N3.out.shape; have k1 := Sys.box2_next hb h1; have k2 := Sys.box2_next hb h2; have hm3 := hm.below hb; have B9 := below_next Bd hb; have Z9 := below_next (below_d (Below.refl w8.heap.size w8)) hb; clear hb hn3)
      | (go_at_call 21; have HT := Sys.eqS_any t t _ _ _ hm3 N3.out; refine HT.mono ?_; clear HT; rintro e w10 ⟨rfl, hb⟩; rw [eqS_refl]; have l1 := Sys.box2_next hb k1; have l2 := Sys.box2_next hb k2; have B10 := below_next B9 hb; have Z10 := hid (below_next Z9 hb); clear hb))
  have hq := Sys.box2_next Z10.out Q.out
  have hx1 := Sys.box2_next Z10.out X1.out
  have hn2 := N2.out.below Z10.out
  have HB := hid B10
  clear h1 h2 hm k1 k2 l1 l2 hm3 Bd B9 B10 Z9 Z10 N1 N3 X0 X1 P Q B
  go_wp2_with fail
  have h1 := Sys.box2_next (below_d (Below.refl _ _)) hq
  have h2 := Sys.box2_next (below_d (Below.refl _ _)) hx1
  have Bd := below_d HB.out
  have hm := hn2.below (below_d (Below.refl _ _))
  clear hq hx1 hn2
  go_region_held3 (fun w' => w'.cell? ⟨w.heap.size + 1, 0, none⟩ = some (.slice a' s.length c') ∧ w'.cell? ⟨w.heap.size + 1, 1, none⟩ = some (.slice b' l.length d') ∧ w'.cell? ⟨w7.heap.size, 0, none⟩ = some (.slice (some ⟨r3, 0, none⟩) s.length s.length) ∧ w'.cell? ⟨w7.heap.size, 1, none⟩ = some (.slice (some ⟨r4, 0, none⟩) l.length l.length))
    (first | exact ⟨h1.2.1, h1.2.2.1, h2.2.1, h2.2.2.1⟩ | exact ⟨k1.2.1, k1.2.2.1, k2.2.1, k2.2.2.1⟩ | exact ⟨l1.2.1, l1.2.2.1, l2.2.1, l2.2.2.1⟩)
    (first
      | (go_at_call 32; have HT := State.to_any s l _ _ (HY.out.below Bd) hl.out.1 hl.out.2; refine HT.mono ?_; clear HT; rintro e w11 ⟨v3, rfl, hn3, hb⟩; have N3 := hid (hn3.any hI.out.1 hI.out.2 (Nat.le_trans hl.out.1 (by unfold maxLen; omega)) (Nat.le_trans hl.out.2 (by unfold maxLen; omega))); obtain ⟨r5, r6, rfl, _⟩ := hn3; have k1 := Sys.box2_next hb h1; have k2 := Sys.box2_next hb h2; have hm3 := hm.below hb; have B11 := below_next Bd hb; clear hb)
      | (go_at_call 35; have HT := State.eq_any s l s l _ _ _ hm3 N3.out; refine HT.mono ?_; clear HT; rintro e w12 ⟨rfl, hb⟩; have l1 := Sys.box2_next hb k1; have l2 := Sys.box2_next hb k2; have B12 := below_next B11 hb; clear hb))
  go_wp2_with fail
  go_ret
  exact Ret.mk rfl B12
end Go.Proofs.Ytchlpeflfiecdaa
