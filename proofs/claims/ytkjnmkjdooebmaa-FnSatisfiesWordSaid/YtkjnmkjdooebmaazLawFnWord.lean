/- FnSatisfiesWord returns true for every argument. Conditions: none. -/
import Derived.Test.YtkjnmkjdooebmaazDrawWord
import Derived.Test.YtkjnmkjdooebmaazRedI2
import Derived.Test.YtkjnmkjdooebmaaJW10
set_option linter.unusedVariables false
set_option linter.unusedSimpArgs false
namespace Go.Proofs.Ytkjnmkjdooebmaa
open Go.RowKit
open Go.Proofs.Ytkjnmkjdooebmaa.Lasso
set_option linter.unusedVariables false
set_option linter.unusedSimpArgs false

theorem same_sat {s l s' l' : List Int} (h : sameW s l s' l' = true) (t : Tr) : satOk s l t = satOk s' l' t ∧ satV s l t = satV s' l' t := by
  have h2 := h
  unfold sameW at h2
  simp only [Bool.and_eq_true, decide_eq_true_eq] at h2
  have e : satOk s l t = satOk s' l' t := by rw [satOk, satOk, h2.1.1.1, h2.1.1.2]
  refine ⟨e, ?_⟩
  rw [satV, satV, e, show wordOf s l = wordOf s' l' from funext (same_word h)]

set_option maxRecDepth 100000 in
set_option maxHeartbeats 4000000 in
theorem walk_FnSatisfiesWord (w : World) (a a' : Option Addr) (len cap len' cap' : Nat) (hb : ByteArg w a len cap) (hb' : ByteArg w a' len' cap') : Calls Try.prog 3 #[.slice a len cap, .slice a' len' cap'] w (Ret (.bool true) w) := by
  have hcap := hb.2.1
  have hcap1 := hb.1
  have hcap' := hb'.2.1
  have hcap1' := hb'.1
  unfold maxLen at hcap hcap'
  by_cases hlen : len > 1048576
  · have hlen2 : (len : Int) > 1048576 := by omega
    go_enter Try.func3, Try.ntmps3
    go_wp2_with fail
    go_ret
    exact Ret.mk rfl (by repeat (first | exact Below.refl _ _ | assumption | refine below_a ?_ _ | refine below_o ?_ _ | refine below_d ?_ | refine below_n ?_ _ | refine below_s ?_ (by first | (simp; done) | (simp; omega) | omega) _))
  have hlen2 : ¬ ((len : Int) > 1048576) := by omega
  by_cases hlen' : len' > 1048576
  · have hlen2' : (len' : Int) > 1048576 := by omega
    go_enter Try.func3, Try.ntmps3
    go_wp2_with fail
    go_ret
    exact Ret.mk rfl (by repeat (first | exact Below.refl _ _ | assumption | refine below_a ?_ _ | refine below_o ?_ _ | refine below_d ?_ | refine below_n ?_ _ | refine below_s ?_ (by first | (simp; done) | (simp; omega) | omega) _))
  have hlen2' : ¬ ((len' : Int) > 1048576) := by omega
  have HB := hid hb
  have HB' := hid hb'
  clear hb hb'
  go_enter Try.func3, Try.ntmps3
  go_wp2_with fail
  refine (Lasso.drawWord_any _ a len cap HB.out).mono ?_
  rintro e w1 ⟨v, rfl, ⟨x, y, s, l, s', l', rfl, hn, hn', _⟩, B0⟩
  obtain ⟨a1, c1, a2, c2, rfl⟩ := hn.shape
  obtain ⟨a3, c3, a4, c4, rfl⟩ := hn'.shape
  have HN := hid hn.any
  have HN' := hid hn'.any
  clear hn hn'
  go_wp2_with fail
  have h0 := below_next (below_alloc w1 (.cells #[.slice a1 s.length c1, .slice a2 l.length c2] 25)) (below_alloc _ (.cells #[.slice a3 s'.length c3, .slice a4 l'.length c4] 25))
  refine (Lasso.drawSat_any _ a' len' cap' (HB'.out.next (below_next B0 h0))).mono ?_
  rintro e w2 ⟨x5, y5, s5, l5, f, rfl, hn5, _, _, hf, _, hb⟩
  obtain ⟨a5, c5, a6, c6, rfl⟩ := hn5.shape
  obtain ⟨aF, cF, rfl⟩ := TrIn_shape hf.any
  have P := hid (boxp_next hb (boxp_next (below_alloc _ _) (boxp_at (w := w1) (B := w1.heap.size) (a := .slice a1 s.length c1) (b := .slice a2 l.length c2) (t := 25) rfl)))
  have Q := hid (boxp_next hb (boxp_at (w := w1.alloc (.cells #[.slice a1 s.length c1, .slice a2 l.length c2] 25)) (B := w1.heap.size + 1) (a := .slice a3 s'.length c3) (b := .slice a4 l'.length c4) (t := 25) (by simp)))
  have M1 := hid (below_next h0 hb)
  have HF := hid hf.any
  clear hb h0 hn5 hf
  have hp1 := Q.out.1
  obtain ⟨p0, p1, p2, p3, p4⟩ := id P.out
  obtain ⟨q0, q1, q2, q3, q4⟩ := id Q.out
  go_upto_region 5 with fail
  refine wp_gen (fun W => BoxP W w1.heap.size (.slice a1 s.length c1) (.slice a2 l.length c2) ∧ BoxP W (w1.heap.size + 1) (.slice a3 s'.length c3) (.slice a4 l'.length c4) ∧ Box3 W (w2.heap.size + 1) (.int .i64 f.kind) (.int .i64 f.val) (.slice aF f.kids.length cF) ∧ Below w2.heap.size w2 W) ?_ ?_
  · have k := below_next (below_alloc w2 (.cells #[.slice a5 s5.length c5, .slice a6 l5.length c6] 25)) (below_alloc _ (.cells #[.int .i64 f.kind, .int .i64 f.val, .slice aF f.kids.length cF] 30))
    exact ⟨boxp_next k P.out, boxp_next k Q.out, box3_at (by simp), k⟩
  clear p0 p1 p2 p3 p4 q0 q1 q2 q3 q4 P Q
  rintro W0 ⟨hp, hq, hf3, hB⟩
  have M2 := hid (below_next M1.out hB)
  have HSA := hid (fun (W : World) (M : Below W0.heap.size W0 W) => sat_any s l f W _ _ ((HN.out.1.below M2.out).below M) (TrIn_below M (TrIn_below hB HF.out)) HN.out.2)
  have HSB := hid (fun (W : World) (M : Below W0.heap.size W0 W) => sat_any s' l' f W _ _ ((HN'.out.1.below M2.out).below M) (TrIn_below M (TrIn_below hB HF.out)) HN'.out.2)
  have HI := hid (fun (W : World) (M : Below W0.heap.size W0 W) => sameW_any s l s' l' W _ _ ((HN.out.1.below M2.out).below M) ((HN'.out.1.below M2.out).below M) HN.out.2 HN'.out.2)
  have HS := hid (fun (W : World) (M : Below W0.heap.size W0 W) => specSameW_any s l s' l' W _ _ ((HN.out.1.below M2.out).below M) ((HN'.out.1.below M2.out).below M) HN.out.2 HN'.out.2)
  have HP := hid hp
  have HQ := hid hq
  have HF3 := hid hf3
  have HSM := hid (fun h => same_sat (s := s) (l := l) (s' := s') (l' := l') h f)
  clear HN HN' HF M1 hB hp hq hf3 HB HB'
  obtain ⟨p0, p1, p2, p3, p4⟩ := id HP.out
  obtain ⟨q0, q1, q2, q3, q4⟩ := id HQ.out
  have B9 := hid (below_next B0 M2.out)
  clear B0 M2
  go_wp2_with fail
  refine (HI.out _ (Below.refl _ _)).mono ?_
  rintro e w3 ⟨rfl, hb⟩
  have P := hid (boxp_next hb HP.out)
  have Q := hid (boxp_next hb HQ.out)
  have F := hid (box3_next hb HF3.out)
  have D := hid hb
  clear hb p0 p1 p2 p3 p4 q0 q1 q2 q3 q4 HP HQ HF3 HI
  obtain ⟨p0, p1, p2, p3, p4⟩ := id P.out
  obtain ⟨q0, q1, q2, q3, q4⟩ := id Q.out
  cases hsm : sameW s l s' l' with
  | false =>
    rw [hsm] at HS
    clear hsm HSM HSA HSB
    go_wp2_with fail
    refine (HS.out _ D.out).mono ?_
    rintro e w4 ⟨rfl, hb⟩
    replace P := hid (boxp_next hb P.out)
    replace Q := hid (boxp_next hb Q.out)
    replace D := hid (below_next D.out hb)
    clear hb p0 p1 p2 p3 p4 q0 q1 q2 q3 q4
    obtain ⟨p0, p1, p2, p3, p4⟩ := id P.out
    obtain ⟨q0, q1, q2, q3, q4⟩ := id Q.out
    go_wp2_with fail
    refine (HS.out _ D.out).mono ?_
    rintro e w5 ⟨rfl, hb⟩
    go_wp2_with fail
    go_ret
    exact Ret.mk rfl (below_next B9.out (below_next D.out hb))
  | true =>
    rw [hsm] at HS
    have HE := hid (HSM.out hsm)
    rw [← HE.out.1, ← HE.out.2] at HSB
    clear hsm HSM HE
    have e1 : (satOk s l f == satOk s l f) = true := by simp
    have e2 : (satV s l f == satV s l f) = true := by simp
    generalize satOk s l f = o at *
    generalize satV s l f = v at *
    go_wp2_with fail
    refine (HS.out _ D.out).mono ?_
    rintro e w4 ⟨rfl, hb⟩
    replace P := hid (boxp_next hb P.out)
    replace Q := hid (boxp_next hb Q.out)
    replace F := hid (box3_next hb F.out)
    replace D := hid (below_next D.out hb)
    clear hb p0 p1 p2 p3 p4 q0 q1 q2 q3 q4
    obtain ⟨p0, p1, p2, p3, p4⟩ := id P.out
    obtain ⟨q0, q1, q2, q3, q4⟩ := id Q.out
    obtain ⟨f0, f1, f2, f3, _⟩ := id F.out
    go_wp2_with fail
    refine (HSA.out _ D.out).mono ?_
    rintro e w5 ⟨rfl, hb⟩
    replace Q := hid (boxp_next hb Q.out)
    replace F := hid (box3_next hb F.out)
    replace D := hid (below_next D.out hb)
    clear hb p0 p1 p2 p3 p4 q0 q1 q2 q3 q4 f0 f1 f2 f3 P
    obtain ⟨q0, q1, q2, q3, q4⟩ := id Q.out
    obtain ⟨f0, f1, f2, f3, _⟩ := id F.out
    go_wp2_with fail
    refine (HSB.out _ D.out).mono ?_
    rintro e w6 ⟨rfl, hb⟩
    go_wp2_with fail
    go_ret
    exact Ret.mk rfl (below_next B9.out (below_next D.out hb))
end Go.Proofs.Ytkjnmkjdooebmaa
