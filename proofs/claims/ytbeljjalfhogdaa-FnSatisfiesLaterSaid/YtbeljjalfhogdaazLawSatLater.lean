/- FnSatisfiesLater returns true for every argument. Conditions: none. -/
import Derived.Test.YtbeljjalfhogdaaJL7
import Derived.Test.YtbeljjalfhogdaaJL11
namespace Go.Proofs.Ytbeljjalfhogdaa
open Go.RowKit
open Go.Proofs.Ytbeljjalfhogdaa.Lasso
set_option linter.unusedVariables false
set_option linter.unusedSimpArgs false

theorem imp_cases {o v v' : Bool} (h : o = true → v = true → v' = true) : o = false ∨ (o = true ∧ v = false) ∨ (o = true ∧ v = true ∧ v' = true) := by
  cases o <;> cases v <;> cases v' <;> simp_all

set_option maxRecDepth 100000 in
set_option maxHeartbeats 4000000 in
theorem walk_FnSatisfiesLater (w : World) (a a' : Option Addr) (len cap len' cap' : Nat) (hb : ByteArg w a len cap) (hb' : ByteArg w a' len' cap') : Calls Try.prog 6 #[.slice a len cap, .slice a' len' cap'] w (Ret (.bool true) w) := by
  have hcap := hb.2.1
  have hcap1 := hb.1
  have hcap' := hb'.2.1
  have hcap1' := hb'.1
  unfold maxLen at hcap hcap'
  by_cases hlen : len > 1048576
  · have hlen2 : (len : Int) > 1048576 := by omega
    go_enter Try.func6, Try.ntmps6
    go_wp2_with fail
    go_ret
    exact Ret.mk rfl (by repeat (first | exact Below.refl _ _ | assumption | refine below_a ?_ _ | refine below_o ?_ _ | refine below_d ?_ | refine below_n ?_ _ | refine below_s ?_ (by first | (simp; done) | (simp; omega) | omega) _))
  have hlen2 : ¬ ((len : Int) > 1048576) := by omega
  by_cases hlen' : len' > 1048576
  · have hlen2' : (len' : Int) > 1048576 := by omega
    go_enter Try.func6, Try.ntmps6
    go_wp2_with fail
    go_ret
    exact Ret.mk rfl (by repeat (first | exact Below.refl _ _ | assumption | refine below_a ?_ _ | refine below_o ?_ _ | refine below_d ?_ | refine below_n ?_ _ | refine below_s ?_ (by first | (simp; done) | (simp; omega) | omega) _))
  have hlen2' : ¬ ((len' : Int) > 1048576) := by omega
  have HB := hid hb
  clear hb hb'
  go_enter Try.func6, Try.ntmps6
  go_wp2_with fail
  refine (Lasso.drawSat_any _ a len cap HB.out).mono ?_
  rintro e w1 ⟨x, y, s, l, f, rfl, hn, hs1, hl1, hf, hfn, B0⟩
  obtain ⟨aS, cS, aL, cL, rfl⟩ := hn.shape
  obtain ⟨aF, cF, rfl⟩ := TrIn_shape hf.any
  obtain ⟨hP, hN⟩ := hn.any
  have hF := hid hf.any
  have HS := hid (fun (t : Tr) (W : World) (y : Value) (M : Below w1.heap.size w1 W) (h : TrIn Any W t y) => sat_any s l t W _ y (hP.below M) h hN)
  have HW := hid (fun (t : Tr) (W : World) (y : Value) (M : Below w1.heap.size w1 W) (h : TrIn Any W t y) => specSat_any s l t W _ y (hP.below M) h)
  have HU := hid (fun (k : Nat) (hk : k ≤ 1000) (W : World) (M : Below w1.heap.size w1 W) => suffix_any s l k hk W _ (hP.below M) hN)
  clear hn hf hP hN HB
  go_wp2_with fail
  have h0 : Below w1.heap.size w1 ((w1.alloc (.cells #[.slice aS s.length cS, .slice aL l.length cL] 25)).alloc (.cells #[.int .i64 f.kind, .int .i64 f.val, .slice aF f.kids.length cF] 29)) := (by repeat (first | exact Below.refl _ _ | assumption | refine below_a ?_ _ | refine below_o ?_ _ | refine below_d ?_ | refine below_n ?_ _ | refine below_s ?_ (by first | (simp; done) | (simp; omega) | omega) _))
  refine (HS.out f _ _ h0 (TrIn_below h0 hF.out)).mono ?_
  rintro e w2 ⟨rfl, hb⟩
  have P := hid (boxp_next hb (boxp_next (below_alloc _ _) (boxp_at (w := w1) (B := w1.heap.size) (a := .slice aS s.length cS) (b := .slice aL l.length cL) (t := 25) rfl)))
  have Q := hid (box3_next hb (box3_at (w := w1.alloc _) (B := w1.heap.size + 1) (a := .int .i64 f.kind) (b := .int .i64 f.val) (c := .slice aF f.kids.length cF) (t := 29) (by simp)))
  have M := hid (below_next h0 hb)
  clear hb h0
  obtain ⟨p0, p1, p2, p3, p4⟩ := id P.out
  obtain ⟨q0, q1, q2, q3, _⟩ := id Q.out
  go_wp2_with fail
  refine (HW.out f _ _ M.out (TrIn_below M.out hF.out)).mono ?_
  rintro e w3 ⟨rfl, hb⟩
  replace P := hid (boxp_next hb P.out)
  replace Q := hid (box3_next hb Q.out)
  replace M := hid (below_next M.out hb)
  clear hb p0 p1 p2 p3 p4 q0 q1 q2 q3 HW
  obtain ⟨p0, p1, p2, p3, p4⟩ := id P.out
  obtain ⟨k, hk⟩ : ∃ k, k = len' % 20 := ⟨_, rfl⟩
  have hk2 : k ≤ 1000 := by omega
  have T0 : Int.tmod (len' : Int) 20 = (k : Int) := by rw [Int.tmod_eq_emod_of_nonneg (by omega), hk]; omega
  clear hk
  go_wp2_with fail
  refine (HU.out k hk2 _ M.out).mono ?_
  rintro e w4 ⟨v, rfl, hn', hb⟩
  obtain ⟨s2, hs2⟩ : ∃ s2, Hid (s2 = if ok s l = true then sufS s k else []) := ⟨_, hid rfl⟩
  obtain ⟨l2, hl2⟩ : ∃ l2, Hid (l2 = if ok s l = true then sufL s l k else []) := ⟨_, hid rfl⟩
  obtain ⟨o0, ho0⟩ : ∃ o0, Hid (o0 = ok s l) := ⟨_, hid rfl⟩
  rw [← hs2.out, ← hl2.out] at hn'
  rw [← ho0.out]
  obtain ⟨aS', cS', aL', cL', rfl⟩ := hn'.shape
  obtain ⟨hP', hN'⟩ := hn'.any
  have HS' := hid (fun (t : Tr) (W : World) (y : Value) (M : Below w4.heap.size w4 W) (h : TrIn Any W t y) => sat_any _ _ t W _ y (hP'.below M) h hN')
  replace P := hid (boxp_next hb P.out)
  replace Q := hid (box3_next hb Q.out)
  replace M := hid (below_next M.out hb)
  clear hb hn' hP' hN' p0 p1 p2 p3 p4 HU T0
  have hvv : (satV s l f != satV s l f) = false := by simp
  have hvv2 : (satV s l f == satV s l f) = true := by simp
  cases hok : satOk s l f with
  | false =>
    generalize satV s l f = vf at *
    clear HS' HS hok
    go_wp2_with fail
    go_ret
    exact Ret.mk (by simp) (below_next B0 (below_next M.out (below_alloc _ _)))
  | true =>
    have h3 := sat_ok hok
    have hO : ok s l = true := h3.2.1
    obtain rfl : o0 = true := by rw [ho0.out, hO]
    have e1 : s2 = sufS s k := by rw [hs2.out, if_pos hO]
    have e2 : l2 = sufL s l k := by rw [hl2.out, if_pos hO]
    have hO' : ok s2 l2 = true := by rw [e1, e2]; exact suf_ok hO
    have E1 : ∀ t, satOk s2 l2 t = satOk s l t := fun t => by rw [satOk, satOk, hO, hO']
    have hw : ∀ i, wordOf s2 l2 i = wordOf s l (i + k) := fun i => by rw [e1, e2]; exact suf_word s l k i (ok_len hO).2.1
    have D1 := hid (fun h1 h2 => later1 (s := s) (l := l) (f := f) (k := k) hw h1 (by rw [E1]; exact h1) h2)
    have D2 := hid (fun h1 h2 => later2 (s := s) (l := l) (f := f) (k := k) hw h1 (by rw [E1]; exact h1) h2)
    have K1 := hid (HS.out (.mk 10 0 [f]))
    have K2 := hid (HS.out (.mk 9 0 [f]))
    have J1' := HS'.out (.mk 10 0 [f])
    have J2' := HS'.out (.mk 9 0 [f])
    rw [E1] at J1' J2'
    have J1 := hid J1'
    have J2 := hid J2'
    clear h3 hO e1 e2 hO' E1 hw hok hs2 hl2 ho0 J1' J2' HS HS'
    generalize satV s l f = vf at *
    generalize satOk s l (.mk 10 0 [f]) = o1 at *
    generalize satOk s l (.mk 9 0 [f]) = o2 at *
    generalize satV s l (.mk 10 0 [f]) = v1 at *
    generalize satV s l (.mk 9 0 [f]) = v2 at *
    generalize satV s2 l2 (.mk 10 0 [f]) = v3 at *
    generalize satV s2 l2 (.mk 9 0 [f]) = v4 at *
    obtain ⟨p0, p1, p2, p3, p4⟩ := id P.out
    obtain ⟨q0, q1, q2, q3, _⟩ := id Q.out
    replace hF := hid (TrIn_below M.out hF.out)
    go_wp2_with fail
    have h0 := below_next (below_alloc w4 (.cells #[.slice aS' s2.length cS', .slice aL' l2.length cL'] 25)) (below_alloc _ (.cells #[.int .i64 f.kind, .int .i64 f.val, .slice aF f.kids.length cF] 29))
    refine (K1.out _ _ (below_next M.out h0) (in_box (by unfold i64; omega) (TrIn_below h0 hF.out) (box3_at (by simp)))).mono ?_
    rintro e w5 ⟨rfl, hb⟩
    have R := hid (boxp_next hb (boxp_next (below_alloc _ _) (boxp_at (w := w4) (B := w4.heap.size) (a := .slice aS' s2.length cS') (b := .slice aL' l2.length cL') (t := 25) rfl)))
    replace hb := below_next h0 hb
    replace P := hid (boxp_next hb P.out)
    replace Q := hid (box3_next hb Q.out)
    replace M := hid (below_next M.out hb)
    have N := hid hb
    replace hF := hid (TrIn_below hb hF.out)
    clear hb h0 p0 p1 p2 p3 p4 q0 q1 q2 q3 K1
    obtain ⟨p0, p1, p2, p3, p4⟩ := id R.out
    obtain ⟨q0, q1, q2, q3, _⟩ := id Q.out
    go_wp2_with fail
    have h0 := below_alloc w5 (.cells #[.int .i64 f.kind, .int .i64 f.val, .slice aF f.kids.length cF] 29)
    refine (J1.out _ _ (below_next N.out h0) (in_box (by unfold i64; omega) (TrIn_below h0 hF.out) (box3_new ..))).mono ?_
    rintro e w6 ⟨rfl, hb⟩
    replace hb := below_next h0 hb
    replace P := hid (boxp_next hb P.out)
    replace R := hid (boxp_next hb R.out)
    replace Q := hid (box3_next hb Q.out)
    replace M := hid (below_next M.out hb)
    replace N := hid (below_next N.out hb)
    replace hF := hid (TrIn_below hb hF.out)
    clear hb h0 p0 p1 p2 p3 p4 q0 q1 q2 q3 J1
    obtain ⟨p0, p1, p2, p3, p4⟩ := id P.out
    obtain ⟨q0, q1, q2, q3, _⟩ := id Q.out
    go_wp2_with fail
    have h0 := below_alloc w6 (.cells #[.int .i64 f.kind, .int .i64 f.val, .slice aF f.kids.length cF] 29)
    refine (K2.out _ _ (below_next M.out h0) (in_box (by unfold i64; omega) (TrIn_below h0 hF.out) (box3_new ..))).mono ?_
    rintro e w7 ⟨rfl, hb⟩
    replace hb := below_next h0 hb
    replace R := hid (boxp_next hb R.out)
    replace Q := hid (box3_next hb Q.out)
    replace M := hid (below_next M.out hb)
    replace N := hid (below_next N.out hb)
    replace hF := hid (TrIn_below hb hF.out)
    clear hb h0 p0 p1 p2 p3 p4 q0 q1 q2 q3 K2 P
    obtain ⟨p0, p1, p2, p3, p4⟩ := id R.out
    obtain ⟨q0, q1, q2, q3, _⟩ := id Q.out
    go_wp2_with fail
    have h0 := below_alloc w7 (.cells #[.int .i64 f.kind, .int .i64 f.val, .slice aF f.kids.length cF] 29)
    refine (J2.out _ _ (below_next N.out h0) (in_box (by unfold i64; omega) (TrIn_below h0 hF.out) (box3_new ..))).mono ?_
    rintro e w8 ⟨rfl, hb⟩
    have HM := hid (below_next B0 (below_next M.out (below_next h0 hb)))
    clear hb h0 p0 p1 p2 p3 p4 q0 q1 q2 q3 J2 R Q M N hF B0
    have C1 := imp_cases D1.out
    have C2 := imp_cases D2.out
    clear D1 D2
    rcases C1 with rfl | ⟨rfl, rfl⟩ | ⟨rfl, rfl, rfl⟩ <;> rcases C2 with rfl | ⟨rfl, rfl⟩ | ⟨rfl, rfl, rfl⟩
    all_goals
      go_wp2_with fail
      go_ret
      exact Ret.mk (by simp) HM.out
end Go.Proofs.Ytbeljjalfhogdaa
