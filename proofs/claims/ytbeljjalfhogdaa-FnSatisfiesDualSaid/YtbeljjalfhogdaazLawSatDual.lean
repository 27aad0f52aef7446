/- FnSatisfiesDual returns true for every argument. Conditions: none. -/
import Derived.Test.YtbeljjalfhogdaaJL7
import Derived.Test.YtbeljjalfhogdaaJL11
import Derived.Deep.RegionHeld3
namespace Go.Proofs.Ytbeljjalfhogdaa
open Go.RowKit
open Go.Proofs.Ytbeljjalfhogdaa.Lasso
set_option linter.unusedVariables false
set_option linter.unusedSimpArgs false

set_option maxRecDepth 100000 in
set_option maxHeartbeats 4000000 in
theorem walk_FnSatisfiesDual (w : World) (a a' : Option Addr) (len cap len' cap' : Nat) (hb : ByteArg w a len cap) (hb' : ByteArg w a' len' cap') : Calls Try.prog 4 #[.slice a len cap, .slice a' len' cap'] w (Ret (.bool true) w) := by
  have hcap := hb.2.1
  have hcap1 := hb.1
  have hcap' := hb'.2.1
  have hcap1' := hb'.1
  unfold maxLen at hcap hcap'
  by_cases hlen : len > 1048576
  · have hlen2 : (len : Int) > 1048576 := by omega
    go_enter Try.func4, Try.ntmps4
    go_wp2_with fail
    go_ret
    exact Ret.mk rfl (by repeat (first | exact Below.refl _ _ | assumption | refine below_a ?_ _ | refine below_o ?_ _ | refine below_d ?_ | refine below_n ?_ _ | refine below_s ?_ (by first | (simp; done) | (simp; omega) | omega) _))
  have hlen2 : ¬ ((len : Int) > 1048576) := by omega
  by_cases hlen' : len' > 1048576
  · have hlen2' : (len' : Int) > 1048576 := by omega
    go_enter Try.func4, Try.ntmps4
    go_wp2_with fail
    go_ret
    exact Ret.mk rfl (by repeat (first | exact Below.refl _ _ | assumption | refine below_a ?_ _ | refine below_o ?_ _ | refine below_d ?_ | refine below_n ?_ _ | refine below_s ?_ (by first | (simp; done) | (simp; omega) | omega) _))
  have hlen2' : ¬ ((len' : Int) > 1048576) := by omega
  have HB := hid hb
  have HB' := hid hb'
  clear hb hb'
  go_enter Try.func4, Try.ntmps4
  go_wp2_with fail
  refine (Lasso.drawSat_any _ a len cap HB.out).mono ?_
  rintro e w1 ⟨x, y, s, l, f, rfl, hn, hs1, hl1, hf, hfn, B0⟩
  obtain ⟨aS, cS, aL, cL, rfl⟩ := hn.shape
  obtain ⟨aF, cF, rfl⟩ := TrIn_shape hf.any
  obtain ⟨hP, hN⟩ := hn.any
  have hF := hid hf.any
  have HS := hid (fun (t : Tr) (W : World) (y : Value) (M : Below w1.heap.size w1 W) (h : TrIn Any W t y) => sat_any s l t W _ y (hP.below M) h hN)
  have HW := hid (fun (t : Tr) (W : World) (y : Value) (M : Below w1.heap.size w1 W) (h : TrIn Any W t y) => specSat_any s l t W _ y (hP.below M) h)
  have HB1 := hid (HB'.out.next B0)
  clear hn hf hP hN HB HB'
  go_wp2_with fail
  refine (Lasso.drawSat_any _ a' len' cap' ((HB1.out.next (below_alloc _ _)).next (below_alloc _ _))).mono ?_
  rintro e w2 ⟨x', y', s', l', h, rfl, hn', _, _, hh, hhn, hb2⟩
  obtain ⟨aS', cS', aL', cL', rfl⟩ := hn'.shape
  obtain ⟨aH, cH, rfl⟩ := TrIn_shape hh.any
  have hH := hid hh.any
  have P := hid (boxp_next hb2 (boxp_next (below_alloc _ _) (boxp_at (w := w1) (B := w1.heap.size) (a := .slice aS s.length cS) (b := .slice aL l.length cL) (t := 25) rfl)))
  have Q := hid (box3_next hb2 (box3_at (w := w1.alloc _) (B := w1.heap.size + 1) (a := .int .i64 f.kind) (b := .int .i64 f.val) (c := .slice aF f.kids.length cF) (t := 29) (by simp)))
  have B1 := hid (below_next (show Below w1.heap.size w1 _ from below_next (below_alloc _ _) (below_alloc _ _)) hb2)
  clear hb2 hn' hh HB1
  replace hF := hid (TrIn_below B1.out hF.out)
  obtain ⟨p0, p1, p2, p3, p4⟩ := id P.out
  obtain ⟨q0, q1, q2, q3, _⟩ := id Q.out
  have R0 := hid (box3_at (w := w2.alloc (.cells #[.slice aS' s'.length cS', .slice aL' l'.length cL'] 25)) (B := w2.heap.size + 1) (a := .int .i64 h.kind) (b := .int .i64 h.val) (c := .slice aH h.kids.length cH) (t := 29) (by simp))
  go_wp2_with fail
  have h0 := below_next (below_alloc w2 (.cells #[.slice aS' s'.length cS', .slice aL' l'.length cL'] 25)) (below_alloc _ (.cells #[.int .i64 h.kind, .int .i64 h.val, .slice aH h.kids.length cH] 29))
  have MM := below_next B1.out h0
  refine (HS.out f _ _ MM (TrIn_below h0 hF.out)).mono ?_
  rintro e w3 ⟨rfl, hb⟩
  have R := hid (box3_next hb R0.out)
  replace P := hid (boxp_next (below_next h0 hb) P.out)
  replace Q := hid (box3_next (below_next h0 hb) Q.out)
  replace B1 := hid (below_next B1.out (below_next h0 hb))
  replace hF := hid (TrIn_below (below_next h0 hb) hF.out)
  replace hH := hid (TrIn_below (below_next h0 hb) hH.out)
  clear hb h0 MM R0 p0 p1 p2 p3 p4 q0 q1 q2 q3
  obtain ⟨p0, p1, p2, p3, p4⟩ := id P.out
  obtain ⟨q0, q1, q2, q3, _⟩ := id Q.out
  obtain ⟨r0, r1, r2, r3, _⟩ := id R.out
  go_wp2_with fail
  have h0 := Below.refl w3.heap.size w3
  have MM := B1.out
  refine (HW.out f _ _ MM (TrIn_below h0 hF.out)).mono ?_
  rintro e w4 ⟨rfl, hb⟩
  replace P := hid (boxp_next (below_next h0 hb) P.out)
  replace Q := hid (box3_next (below_next h0 hb) Q.out)
  replace R := hid (box3_next (below_next h0 hb) R.out)
  replace B1 := hid (below_next B1.out (below_next h0 hb))
  replace hF := hid (TrIn_below (below_next h0 hb) hF.out)
  replace hH := hid (TrIn_below (below_next h0 hb) hH.out)
  clear hb h0 MM p0 p1 p2 p3 p4 q0 q1 q2 q3 r0 r1 r2 r3
  have hoo : (satOk s l f != satOk s l f) = false := by simp
  have hvv : (satV s l f != satV s l f) = false := by simp
  generalize satOk s l f = okf at *
  generalize satV s l f = vf at *
  have hk3 : i64 3 := by unfold i64; omega
  obtain ⟨W, hW⟩ : ∃ W : World, W = ((w4.alloc (.cells #[.int .i64 f.kind, .int .i64 f.val, .slice aF f.kids.length cF] 29)).alloc (.cells #[.int .i64 h.kind, .int .i64 h.val, .slice aH h.kids.length cH] 29)).alloc (.cells #[.int .i64 3, .int .i64 0, .slice (some ⟨w4.heap.size, 0, none⟩) 1 1, .int .i64 3, .int .i64 0, .slice (some ⟨w4.heap.size + 1, 0, none⟩) 1 1] 29) := ⟨_, rfl⟩
  have h0 : Below w4.heap.size w4 W := by rw [hW]; exact below_next (below_next (below_alloc w4 (.cells #[.int .i64 f.kind, .int .i64 f.val, .slice aF f.kids.length cF] 29)) (below_alloc _ (.cells #[.int .i64 h.kind, .int .i64 h.val, .slice aH h.kids.length cH] 29))) (below_alloc _ _)
  have hNf := hid (show TrIn Any W (.mk 3 0 [f]) (.agg #[.int .i64 3, .int .i64 0, .slice (some ⟨w4.heap.size, 0, none⟩) 1 1]) from
    in_box hk3 (TrIn_below h0 hF.out) (by rw [hW]; exact box3_next (below_alloc _ _) (box3_next (below_alloc _ _) (box3_new ..))))
  have hNh := hid (show TrIn Any W (.mk 3 0 [h]) (.agg #[.int .i64 3, .int .i64 0, .slice (some ⟨w4.heap.size + 1, 0, none⟩) 1 1]) from
    in_box hk3 (TrIn_below h0 hH.out) (by rw [hW]; exact box3_next (below_alloc _ _) (box3_at (by simp))))
  have hsix := six_at (w := (w4.alloc (.cells #[.int .i64 f.kind, .int .i64 f.val, .slice aF f.kids.length cF] 29)).alloc (.cells #[.int .i64 h.kind, .int .i64 h.val, .slice aH h.kids.length cH] 29)) (b := w4.heap.size + 1 + 1) (x0 := .int .i64 3) (x1 := .int .i64 0) (x2 := .slice (some ⟨w4.heap.size, 0, none⟩) 1 1) (x3 := .int .i64 3) (x4 := .int .i64 0) (x5 := .slice (some ⟨w4.heap.size + 1, 0, none⟩) 1 1) (t := 29) (by simp)
  rw [← hW] at hsix
  have hU := hid (in_kids2 (k := 7) (b := w4.heap.size + 1 + 1) (c := 2) (by unfold i64; omega) hNf.out hNh.out hsix.1 hsix.2.1 hsix.2.2.1 hsix.2.2.2.1 hsix.2.2.2.2.1 hsix.2.2.2.2.2 (by omega) (by simp [maxLen]))
  have hE := hid (in_kid (k := 9) (b := w4.heap.size + 1 + 1) (c := 2) (by unfold i64; omega) hNf.out hsix.1 hsix.2.1 hsix.2.2.1 (by omega) (by simp [maxLen]))
  have pz := P.out.1
  have pz1 : w1.heap.size < w4.heap.size + 1 := by omega
  have pz2 : w1.heap.size < w4.heap.size + 1 + 1 := by omega
  clear hNf hNh hsix
  subst hW
  obtain ⟨p0, p1, p2, p3, p4⟩ := id P.out
  obtain ⟨q0, q1, q2, q3, _⟩ := id Q.out
  obtain ⟨r0, r1, r2, r3, _⟩ := id R.out
  go_wp2_with fail
  have MM := below_next B1.out h0
  refine (HS.out (.mk 7 0 [.mk 3 0 [f], .mk 3 0 [h]]) _ _ MM hU.out).mono ?_
  rintro e w5 ⟨rfl, hb⟩
  replace P := hid (boxp_next (below_next h0 hb) P.out)
  replace Q := hid (box3_next (below_next h0 hb) Q.out)
  replace R := hid (box3_next (below_next h0 hb) R.out)
  replace B1 := hid (below_next B1.out (below_next h0 hb))
  replace hF := hid (TrIn_below (below_next h0 hb) hF.out)
  replace hH := hid (TrIn_below (below_next h0 hb) hH.out)
  replace hE := hid (TrIn_below hb hE.out)
  clear hU
  clear hb h0 MM p0 p1 p2 p3 p4 q0 q1 q2 q3 r0 r1 r2 r3
  have h0 := below_alloc w5 (.cells #[.int .i64 f.kind, .int .i64 f.val, .slice aF f.kids.length cF, .int .i64 h.kind, .int .i64 h.val, .slice aH h.kids.length cH] 29)
  have hsix := six_at (w := w5) (b := w5.heap.size) (x0 := .int .i64 f.kind) (x1 := .int .i64 f.val) (x2 := .slice aF f.kids.length cF) (x3 := .int .i64 h.kind) (x4 := .int .i64 h.val) (x5 := .slice aH h.kids.length cH) (t := 29) rfl
  have hR := hid (in_kids2 (k := 8) (b := w5.heap.size) (c := 2) (by unfold i64; omega) (TrIn_below h0 hF.out) (TrIn_below h0 hH.out) hsix.1 hsix.2.1 hsix.2.2.1 hsix.2.2.2.1 hsix.2.2.2.2.1 hsix.2.2.2.2.2 (by omega) (by simp [maxLen]))
  clear hsix
  obtain ⟨p0, p1, p2, p3, p4⟩ := id P.out
  obtain ⟨q0, q1, q2, q3, _⟩ := id Q.out
  obtain ⟨r0, r1, r2, r3, _⟩ := id R.out
  go_wp2_with fail
  have MM := below_next B1.out h0
  refine (HS.out (.mk 8 0 [f, h]) _ _ MM hR.out).mono ?_
  rintro e w6 ⟨rfl, hb⟩
  replace P := hid (boxp_next (below_next h0 hb) P.out)
  replace Q := hid (box3_next (below_next h0 hb) Q.out)
  replace R := hid (box3_next (below_next h0 hb) R.out)
  replace B1 := hid (below_next B1.out (below_next h0 hb))
  replace hF := hid (TrIn_below (below_next h0 hb) hF.out)
  replace hH := hid (TrIn_below (below_next h0 hb) hH.out)
  replace hE := hid (TrIn_below (below_next h0 hb) hE.out)
  clear hb h0 MM p0 p1 p2 p3 p4 q0 q1 q2 q3 r0 r1 r2 r3
  clear hR
  obtain ⟨p0, p1, p2, p3, p4⟩ := id P.out
  obtain ⟨q0, q1, q2, q3, _⟩ := id Q.out
  obtain ⟨r0, r1, r2, r3, _⟩ := id R.out
  go_wp2_with fail
  refine wp_region_over (by kernel_rfl) (by kernel_rfl) ?_; (repeat (go_big_quiet_step ((go_at_call 11; exact Calls.over (HS.out (.mk 9 0 [.mk 3 0 [f]]) _ _ (below_next B1.out (over_below _ _)) (TrIn_over hE.out _)))))); refine wpQuiet_nil ?_; rintro _ ⟨xq, rfl⟩
  have h0 := over_below w6 xq
  replace P := hid (boxp_next h0 P.out)
  replace Q := hid (box3_next h0 Q.out)
  replace B1 := hid (below_next B1.out h0)
  replace hF := hid (TrIn_below h0 hF.out)
  clear h0 p0 p1 p2 p3 p4 q0 q1 q2 q3 r0 r1 r2 r3 R hE hH HW
  generalize w6.over xq = w7 at *
  obtain ⟨p0, p1, p2, p3, p4⟩ := id P.out
  obtain ⟨q0, q1, q2, q3, _⟩ := id Q.out
  go_wp2_with fail
  have h0 := below_alloc w7 (.cells #[.int .i64 f.kind, .int .i64 f.val, .slice aF f.kids.length cF] 29)
  refine (HS.out (.mk 10 0 [f]) _ _ (below_next B1.out h0) (in_box (by unfold i64; omega) (TrIn_below h0 hF.out) (box3_new ..))).mono ?_
  rintro e w8 ⟨rfl, hb⟩
  have HB := hid (below_next B0 (below_next B1.out (below_next h0 hb)))
  clear hb h0 p0 p1 p2 p3 p4 q0 q1 q2 q3 P Q B1 hF B0 HS
  have D1 := hid (fun h1 h2 => dual1b (s := s) (l := l) (f := f) (h := h) h1 h2)
  have D2 := hid (fun h1 h2 => dual2b (s := s) (l := l) (f := f) h1 h2)
  generalize satOk s l (.mk 7 0 [.mk 3 0 [f], .mk 3 0 [h]]) = o1 at *
  generalize satV s l (.mk 7 0 [.mk 3 0 [f], .mk 3 0 [h]]) = v1 at *
  generalize satOk s l (.mk 8 0 [f, h]) = o2 at *
  generalize satV s l (.mk 8 0 [f, h]) = v2 at *
  generalize satOk s l (.mk 9 0 [.mk 3 0 [f]]) = o3 at *
  generalize satV s l (.mk 9 0 [.mk 3 0 [f]]) = v3 at *
  generalize satOk s l (.mk 10 0 [f]) = o4 at *
  generalize satV s l (.mk 10 0 [f]) = v4 at *
  have C1 := not_cases D1.out
  have C2 := not_cases D2.out
  clear D1 D2
  rcases C1 with rfl | ⟨rfl, rfl⟩ | ⟨rfl, rfl, rfl, rfl⟩ | ⟨rfl, rfl, rfl, rfl⟩ <;> rcases C2 with rfl | ⟨rfl, rfl⟩ | ⟨rfl, rfl, rfl, rfl⟩ | ⟨rfl, rfl, rfl, rfl⟩
  all_goals
    go_wp2_with fail
    go_ret
    exact Ret.mk (by simp) HB.out
end Go.Proofs.Ytbeljjalfhogdaa
