/- FnSatisfiesNormal returns true for every argument. Conditions: none. -/
import Derived.Test.YtbeljjalfhogdaaJL7
import Derived.Test.YtbeljjalfhogdaaJL11
import Derived.Test.YtbeljjalfhogdaaJL13
import Derived.Test.YtbeljjalfhogdaaJL12
namespace Go.Proofs.Ytbeljjalfhogdaa
open Go.RowKit
open Go.Proofs.Ytbeljjalfhogdaa.Lasso
set_option linter.unusedVariables false
set_option linter.unusedSimpArgs false

theorem norm_sat {s l : List Int} {t : Tr} (h : satOk s l t = true) : satOk s l (Formula.normV t) = Formula.normOk t ∧ (Formula.normOk t = true → satV s l (Formula.normV t) = satV s l t) := by
  have h2 := sat_ok h
  cases hn : Formula.normOk t with
  | false =>
    refine ⟨?_, fun h => by cases h⟩
    rw [Formula.normV, hn, satOk, h2.2.1]
    kernel_rfl
  | true =>
    have hv : formL.valid (nfT t false) = true := by rw [Formula.normOk, Bool.and_eq_true] at hn; exact hn.2
    have e : Formula.normV t = nfT t false := by rw [Formula.normV, hn]; simp
    have ho : satOk s l (nfT t false) = true := by rw [satOk, h2.2.1, hv]; rfl
    rw [e]
    exact ⟨ho, fun _ => by rw [nf_sat false h ho]; simp⟩
theorem neg_sat {s l : List Int} {t : Tr} (h : satOk s l t = true) : satOk s l (Formula.negV t) = Formula.negOk t ∧ (Formula.negOk t = true → satV s l (Formula.negV t) = !satV s l t) := by
  have h2 := sat_ok h
  cases hn : Formula.negOk t with
  | false =>
    refine ⟨?_, fun h => by cases h⟩
    rw [Formula.negV, hn, satOk, h2.2.1]
    kernel_rfl
  | true =>
    have hv : formL.valid (Formula.negT t) = true := by rw [Formula.negOk, Bool.and_eq_true] at hn; exact hn.2
    have e : Formula.negV t = Formula.negT t := by rw [Formula.negV, hn]; simp
    have ho : satOk s l (Formula.negT t) = true := by rw [satOk, h2.2.1, hv]; rfl
    rw [e]
    refine ⟨ho, fun _ => ?_⟩
    rw [(sat_ok ho).1, h2.1]
    cases t with
    | mk k v kids =>
      by_cases hk : k = 3
      · obtain ⟨a, rfl, _⟩ := Formula.neg_kid h2.2.2 hk
        subst hk
        rw [sem3]
        simp [Formula.negT]
      · rw [Formula.negT, if_neg hk, sem3]

set_option maxRecDepth 100000 in
set_option maxHeartbeats 4000000 in
theorem walk_FnSatisfiesNormal (w : World) (a : Option Addr) (len cap : Nat) (hb : ByteArg w a len cap) : Calls Try.prog 9 #[.slice a len cap] w (Ret (.bool true) w) := by
  have hcap := hb.2.1
  have hcap1 := hb.1
  unfold maxLen at hcap
  by_cases hlen : len > 1048576
  · have hlen2 : (len : Int) > 1048576 := by omega
    go_enter Try.func9, Try.ntmps9
    go_wp2_with fail
    go_ret
    exact Ret.mk rfl (by repeat (first | exact Below.refl _ _ | assumption | refine below_a ?_ _ | refine below_o ?_ _ | refine below_d ?_ | refine below_n ?_ _ | refine below_s ?_ (by first | (simp; done) | (simp; omega) | omega) _))
  have hlen2 : ¬ ((len : Int) > 1048576) := by omega
  have HB := hid hb
  clear hb
  go_enter Try.func9, Try.ntmps9
  go_wp2_with fail
  refine (Lasso.drawSat_any _ a len cap HB.out).mono ?_
  rintro e w1 ⟨x, y, s, l, f, rfl, hn, hs1, hl1, hf, hfn, B0⟩
  obtain ⟨aS, cS, aL, cL, rfl⟩ := hn.shape
  obtain ⟨aF, cF, rfl⟩ := TrIn_shape hf.any
  obtain ⟨hP, hN⟩ := hn.any
  have hF := hid hf.any
  have hsm := hid (small_nodes f (by omega))
  have HS := hid (fun (t : Tr) (W : World) (y : Value) (M : Below w1.heap.size w1 W) (h : TrIn Any W t y) => sat_any s l t W _ y (hP.below M) h hN)
  have HW := hid (fun (t : Tr) (W : World) (y : Value) (M : Below w1.heap.size w1 W) (h : TrIn Any W t y) => specSat_any s l t W _ y (hP.below M) h)
  clear hn hf hP hN HB
  go_wp2_with fail
  have h0 : Below w1.heap.size w1 ((w1.alloc (.cells #[.slice aS s.length cS, .slice aL l.length cL] 25)).alloc (.cells #[.int .i64 f.kind, .int .i64 f.val, .slice aF f.kids.length cF] 29)) := (by repeat (first | exact Below.refl _ _ | assumption | refine below_a ?_ _ | refine below_o ?_ _ | refine below_d ?_ | refine below_n ?_ _ | refine below_s ?_ (by first | (simp; done) | (simp; omega) | omega) _))
  refine (HS.out f _ _ h0 (TrIn_below h0 hF.out)).mono ?_
  rintro e w2 ⟨rfl, hb⟩
  have P := hid (boxp_next hb (boxp_next (below_alloc _ _) (boxp_at (w := w1) (B := w1.heap.size) (a := .slice aS s.length cS) (b := .slice aL l.length cL) (t := 25) rfl)))
  have Q := hid (box3_next hb (box3_at (w := w1.alloc _) (B := w1.heap.size + 1) (a := .int .i64 f.kind) (b := .int .i64 f.val) (c := .slice aF f.kids.length cF) (t := 29) (by simp)))
  have M := hid (below_next h0 hb)
  clear hb h0
  obtain ⟨p0, p1, p2, p3, p4⟩ := id P.out
  obtain ⟨q0, q1, q2, q3, _⟩ := id Q.out
  go_wp2_with fail
  refine (HW.out f _ _ M.out (TrIn_below M.out hF.out)).mono ?_
  rintro e w3 ⟨rfl, hb⟩
  replace P := hid (boxp_next hb P.out)
  replace Q := hid (box3_next hb Q.out)
  replace M := hid (below_next M.out hb)
  clear hb p0 p1 p2 p3 p4 q0 q1 q2 q3 HW
  obtain ⟨p0, p1, p2, p3, p4⟩ := id P.out
  obtain ⟨q0, q1, q2, q3, _⟩ := id Q.out
  have hvv : (satV s l f != satV s l f) = false := by simp
  have hvv2 : (satV s l f == satV s l f) = true := by simp
  have hl1 := hid (fun h => norm_sat (s := s) (l := l) (t := f) h)
  have hl2 := hid (fun h => neg_sat (s := s) (l := l) (t := f) h)
  cases hok : satOk s l f with
  | false =>
    generalize satV s l f = vf at *
    clear hl1 hl2 HS hok
    go_wp2_with fail
    go_ret
    exact Ret.mk (by simp) (below_next B0 M.out)
  | true =>
    obtain ⟨n1, n2⟩ := hl1.out hok
    obtain ⟨m1, m2⟩ := hl2.out hok
    have N2 := hid n2
    have M2 := hid m2
    have HS1 := HS.out (Formula.normV f)
    have HS2 := HS.out (Formula.negV f)
    rw [n1] at HS1
    rw [m1] at HS2
    have K1 := hid HS1
    have K2 := hid HS2
    clear hl1 hl2 HS HS1 HS2 n1 n2 m1 m2 hok
    generalize satV s l (Formula.normV f) = vn at *
    generalize satV s l (Formula.negV f) = vg at *
    generalize satV s l f = vf at *
    go_wp2_with fail
    refine (Formula.norm_any f _ _ (TrIn_below M.out hF.out) hsm.out).mono ?_
    rintro e w4 ⟨v4, rfl, hn4, hb⟩
    obtain ⟨aG, cG, rfl⟩ := TrIn_shape hn4.any
    have hG := hid hn4.any
    replace P := hid (boxp_next hb P.out)
    replace Q := hid (box3_next hb Q.out)
    replace M := hid (below_next M.out hb)
    clear hb hn4 p0 p1 p2 p3 p4 q0 q1 q2 q3
    obtain ⟨p0, p1, p2, p3, p4⟩ := id P.out
    generalize Formula.normOk f = on at *
    generalize Formula.normV f = nf at *
    go_wp2_with fail
    have h0 := below_alloc w4 (.cells #[.int .i64 nf.kind, .int .i64 nf.val, .slice aG nf.kids.length cG] 29)
    refine (K1.out _ _ (below_next M.out h0) (TrIn_below h0 hG.out)).mono ?_
    rintro e w5 ⟨rfl, hb⟩
    replace hb := below_next h0 hb
    replace P := hid (boxp_next hb P.out)
    replace Q := hid (box3_next hb Q.out)
    replace M := hid (below_next M.out hb)
    clear hb h0 p0 p1 p2 p3 p4 K1 hG
    obtain ⟨q0, q1, q2, q3, _⟩ := id Q.out
    go_wp2_with fail
    refine (Formula.negate_any f _ _ (TrIn_below M.out hF.out) hsm.out).mono ?_
    rintro e w6 ⟨v4, rfl, hn4, hb⟩
    obtain ⟨aH, cH, rfl⟩ := TrIn_shape hn4.any
    have hG := hid hn4.any
    replace P := hid (boxp_next hb P.out)
    replace M := hid (below_next M.out hb)
    clear hb hn4 q0 q1 q2 q3 Q
    obtain ⟨p0, p1, p2, p3, p4⟩ := id P.out
    generalize Formula.negOk f = og at *
    generalize Formula.negV f = ng at *
    go_wp2_with fail
    have h0 := below_alloc w6 (.cells #[.int .i64 ng.kind, .int .i64 ng.val, .slice aH ng.kids.length cH] 29)
    refine (K2.out _ _ (below_next M.out h0) (TrIn_below h0 hG.out)).mono ?_
    rintro e w7 ⟨rfl, hb⟩
    replace hb := below_next h0 hb
    have HM := hid (below_next B0 (below_next M.out hb))
    clear hb h0 p0 p1 p2 p3 p4 K2 hG P M hF hsm B0
    cases vf <;> cases on <;> cases og
    all_goals
      (first | (obtain rfl := N2.out rfl) | skip)
      (first | (obtain rfl := M2.out rfl) | skip)
      clear N2 M2
      go_wp2_with fail
      go_ret
      exact Ret.mk (by simp) HM.out
end Go.Proofs.Ytbeljjalfhogdaa
