/- FnExprDuality returns true for all arguments. Conditions: none. -/
import Derived.Test.YtplogaapgolaiaaEvalDraw
import Derived.Test.YtplogaapgolaiaaEvalX
import Derived.Test.YtplogaapgolaiaaTreeMade
import Derived.Test.YtplogaapgolaiaaKidsPlain
import Derived.Test.YtplogaapgolaiaaLawFnExprInverse
import Derived.Deep.RegionHeld3
namespace Go.Proofs.Ytplogaapgolaiaa
open Go.RowKit
open Go.Proofs.Ytplogaapgolaiaa.Expr

/-- of two operands: the kind does not matter, nor the order -/
theorem ok_kind {a b : Tr} {l : List Int} (k : Int) (h4 : 4 ≤ k) (h9 : k ≤ 9) : evalOk (.mk k 0 [a, b]) l = evalOk (.mk 4 0 [a, b]) l := by
  have hm : ∀ j : Int, 4 ≤ j → j ≤ 9 → exprL.okB j 0 2 = true := by
    intro j h1 h2
    rw [Lang.okB_iff, exprL_K, exprL_most, exprL_ar]
    rw [if_neg (by omega), if_neg (by omega), if_neg (by omega), if_neg (by omega)]
    omega
  rw [Bool.eq_iff_iff]
  simp only [evalOk, Lang.valid, Bool.and_eq_true, decide_eq_true_eq]
  simp only [Lang.shape, nodes, List.length_cons, List.length_nil, hm k h4 h9, hm 4 (by omega) (by omega)]
theorem ok_swap {a b : Tr} {l : List Int} (k : Int) : evalOk (.mk k 0 [b, a]) l = evalOk (.mk k 0 [a, b]) l := by
  rw [Bool.eq_iff_iff]
  simp only [evalOk, Lang.valid, Bool.and_eq_true, decide_eq_true_eq]
  simp only [Lang.shape, Lang.shapeL, nodes, nodesL, List.length_cons, List.length_nil, Bool.and_eq_true, decide_eq_true_eq]
  constructor <;> (rintro ⟨⟨⟨h1, h2, h3, h4, h5⟩, h6⟩, h7⟩; exact ⟨⟨⟨h1, h2, h4, h3, h5⟩, by omega⟩, h7⟩)
theorem two_val {a b : Tr} {l : List Int} (k : Int) (h : evalOk (.mk k 0 [a, b]) l = true) : evalV (.mk k 0 [a, b]) l = nodeVal (gOf l) k 0 [evalV a l, evalV b l] := by
  have ha : evalOk a l = true := evalOk_kid h (by simp [Tr.kids])
  have hb : evalOk b l = true := evalOk_kid h (by simp [Tr.kids])
  rw [(evalV_bd h).2.2, (evalV_bd ha).2.2, (evalV_bd hb).2.2]
  rfl
theorem one_val {a : Tr} {l : List Int} (h : evalOk (.mk 3 0 [a]) l = true) : evalV (.mk 3 0 [a]) l = tr01 (evalV a l == 0) := by
  have ha : evalOk a l = true := evalOk_kid h (by simp [Tr.kids])
  rw [(evalV_bd h).2.2, (evalV_bd ha).2.2]
  rfl
/-- what the law asks -/
theorem dual_facts {a b : Tr} {l : List Int} (hr : evalOk (.mk 4 0 [a, b]) l = true) (_ : evalOk a l = true) :
    (evalOk (.mk 5 0 [.mk 3 0 [a], .mk 3 0 [b]]) l = true → evalV (.mk 4 0 [a, b]) l = 1 - evalV (.mk 5 0 [.mk 3 0 [a], .mk 3 0 [b]]) l ∧ 0 ≤ evalV (.mk 5 0 [.mk 3 0 [a], .mk 3 0 [b]]) l ∧ evalV (.mk 5 0 [.mk 3 0 [a], .mk 3 0 [b]]) l ≤ 1) ∧
    (evalV a l = evalV b l → evalV (.mk 7 0 [a, b]) l = 0 ∧ evalV (.mk 6 0 [a, b]) l = 1 ∧ evalV (.mk 7 0 [b, a]) l = 0) ∧
    (evalV a l ≠ evalV b l → evalV (.mk 6 0 [a, b]) l = 0 ∧ ((evalV (.mk 7 0 [a, b]) l = 1 ∧ evalV (.mk 7 0 [b, a]) l = 0) ∨ (evalV (.mk 7 0 [a, b]) l = 0 ∧ evalV (.mk 7 0 [b, a]) l = 1))) := by
  have h6 : evalOk (.mk 6 0 [a, b]) l = true := by rw [ok_kind 6 (by omega) (by omega)]; exact hr
  have h7 : evalOk (.mk 7 0 [a, b]) l = true := by rw [ok_kind 7 (by omega) (by omega)]; exact hr
  have h7' : evalOk (.mk 7 0 [b, a]) l = true := by rw [ok_swap]; exact h7
  rw [two_val 6 h6, two_val 7 h7, two_val 7 h7', two_val 4 hr]
  refine ⟨fun hs => ?_, fun e => ?_, fun e => ?_⟩
  · have k1 : evalOk (.mk 3 0 [a]) l = true := evalOk_kid hs (by simp [Tr.kids])
    have k2 : evalOk (.mk 3 0 [b]) l = true := evalOk_kid hs (by simp [Tr.kids])
    rw [two_val 5 hs, one_val k1, one_val k2]
    by_cases e1 : evalV a l = 0 <;> by_cases e2 : evalV b l = 0 <;> simp [nodeVal, tr01, e1, e2]
  · simp [nodeVal, tr01, e]
  · have e' : ¬ evalV b l = evalV a l := fun h => e h.symm
    rcases Int.lt_or_gt_of_ne e with h | h
    · simp [nodeVal, tr01, e, h]; omega
    · simp [nodeVal, tr01, e, h]; omega

set_option maxRecDepth 100000 in
set_option maxHeartbeats 4000000 in
theorem walk_FnExprDuality (w : World) (a a' : Option Addr) (len cap len' cap' : Nat) (hb : ByteArg w a len cap) (hb' : ByteArg w a' len' cap') : Calls Try.prog 4 #[.slice a len cap, .slice a' len' cap'] w (Ret (.bool true) w) := by
  have hcap := hb.2.1
  have hcap1 := hb.1
  have hcap' := hb'.2.1
  have hcap1' := hb'.1
  unfold maxLen at hcap hcap'
  by_cases hlen : len > 1048576
  · have hlen2 : (len : Int) > 1048576 := by omega
    go_enter Try.func4, Try.ntmps4
    go_wp2_with fail
    go_ret
    exact Ret.mk rfl (by repeat (first | exact Below.refl _ _ | assumption | refine below_a ?_ _ | refine below_o ?_ _ | refine below_d ?_ | refine below_n ?_ _ | refine below_s ?_ (by first | (simp; done) | (simp; omega) | omega) _))
  have hlen2 : ¬ ((len : Int) > 1048576) := by omega
  by_cases hlen' : len' > 1048576
  · have hlen3 : (len' : Int) > 1048576 := by omega
    go_enter Try.func4, Try.ntmps4
    go_wp2_with fail
    go_ret
    exact Ret.mk rfl (by repeat (first | exact Below.refl _ _ | assumption | refine below_a ?_ _ | refine below_o ?_ _ | refine below_d ?_ | refine below_n ?_ _ | refine below_s ?_ (by first | (simp; done) | (simp; omega) | omega) _))
  have hlen3 : ¬ ((len' : Int) > 1048576) := by omega
  go_enter Try.func4, Try.ntmps4
  go_wp2_with fail
  refine (Expr.drawEval_any _ a len cap hb).mono ?_
  rintro e w1 ⟨x, v, t, l, rfl, hn, hnt, hV, hl3, hi, B1⟩
  obtain ⟨a1, n1, rfl⟩ := TrIn_shape hn.any
  obtain ⟨aV, cV, bV, rfl, hcV, hcV2, oV, gV⟩ := hV
  rw [List.length_map] at hcV ⊢
  have hI : IntsIn Any w1 aV l := ⟨oV.any, hi⟩
  have hx := hn.any
  clear hn oV gV hb
  go_wp2_with fail
  refine (Expr.drawEval_any _ a' len' cap' (hb'.next (by repeat (first | exact Below.refl _ _ | assumption | refine below_a ?_ _ | refine below_o ?_ _ | refine below_d ?_ | refine below_n ?_ _ | refine below_s ?_ (by first | (simp; done) | (simp; omega) | omega) _)))).mono ?_
  rintro e w2 ⟨x', v', u, l', rfl, hn', hnt', hV', hl3', hi', hb2⟩
  obtain ⟨a2, n2, rfl⟩ := TrIn_shape hn'.any
  obtain ⟨aV', cV', bV', rfl, _, _, _, _⟩ := hV'
  have b5 := box3_next hb2 (box3_new w1 (.int .i64 t.kind) (.int .i64 t.val) (.slice a1 t.kids.length n1) 25)
  replace hb2 := below_next (below_alloc _ _) hb2
  replace B1 := below_next B1 hb2
  replace hx := TrIn_below hb2 hx
  replace hI := hI.below hb2
  have hy := hn'.any
  clear hb2 hn' hb'
  have HE := hid (fun (t : Tr) (w' : World) x (M : Below w2.heap.size w2 w') (hx : TrIn Any w' t x) => Expr.eval_any t l w' x aV cV hx (hI.below M) hcV hcV2)
  have HSE := hid (fun (w' : World) (M : Below w2.heap.size w2 w') => Expr.specEval_any t l w' _ aV cV (TrIn_below M hx) (hI.below M) hcV hcV2)
  have HDU := hid (fun h h' => dual_facts (a := t) (b := u) (l := l) h h')
  have hee : (evalV t l != evalV t l) = false := by simp
  have hee2 : (evalV t l == evalV t l) = true := by simp
  have hpp : (evalOk t l != evalOk t l) = false := by simp
  have hpp2 : (evalOk t l == evalOk t l) = true := by simp
  clear hI
  go_wp2_with fail
  refine (HE.out t _ _ (by repeat (first | exact Below.refl _ _ | assumption | refine below_a ?_ _ | refine below_o ?_ _ | refine below_d ?_ | refine below_n ?_ _ | refine below_s ?_ (by first | (simp; done) | (simp; omega) | omega) _)) (TrIn_below (by repeat (first | exact Below.refl _ _ | assumption | refine below_a ?_ _ | refine below_o ?_ _ | refine below_d ?_ | refine below_n ?_ _ | refine below_s ?_ (by first | (simp; done) | (simp; omega) | omega) _)) hx)).mono ?_
  rintro e w3 ⟨rfl, hb3⟩
  have b7 := box3_next hb3 (box3_new w2 (.int .i64 u.kind) (.int .i64 u.val) (.slice a2 u.kids.length n2) 25)
  replace hb3 := below_next (below_alloc _ _) hb3
  have M3 := hb3
  replace b5 := box3_next hb3 b5
  replace B1 := below_next B1 hb3
  clear hb3
  go_wp2_with fail
  refine (HE.out u _ _ (by repeat (first | exact Below.refl _ _ | assumption | refine below_a ?_ _ | refine below_o ?_ _ | refine below_d ?_ | refine below_n ?_ _ | refine below_s ?_ (by first | (simp; done) | (simp; omega) | omega) _)) (TrIn_below (by repeat (first | exact Below.refl _ _ | assumption | refine below_a ?_ _ | refine below_o ?_ _ | refine below_d ?_ | refine below_n ?_ _ | refine below_s ?_ (by first | (simp; done) | (simp; omega) | omega) _)) hy)).mono ?_
  rintro e w30 ⟨rfl, hb30⟩
  replace b7 := box3_next hb30 b7
  replace b5 := box3_next hb30 b5
  replace B1 := below_next B1 hb30
  replace M3 := below_next M3 hb30
  clear hb30
  go_wp2_with fail
  refine (HSE.out _ (by repeat (first | exact Below.refl _ _ | assumption | refine below_a ?_ _ | refine below_o ?_ _ | refine below_d ?_ | refine below_n ?_ _ | refine below_s ?_ (by first | (simp; done) | (simp; omega) | omega) _))).mono ?_
  rintro e w4 ⟨rfl, hb4⟩
  replace b7 := box3_next hb4 b7
  replace b5 := box3_next hb4 b5
  replace B1 := below_next B1 hb4
  replace M3 := below_next M3 hb4
  clear hb4
  have hx4 := TrIn_below M3 hx
  have hy4 := TrIn_below M3 hy
  have BX := hid (And.intro b5 b7)
  obtain ⟨p0, p1, p2, p3, p4⟩ := b5
  obtain ⟨q0, q1, q2, q3, q4⟩ := b7
  have hr6 := ok_kind (a := t) (b := u) (l := l) 6 (by omega) (by omega)
  have hr7 := ok_kind (a := t) (b := u) (l := l) 7 (by omega) (by omega)
  have hr7' : evalOk (.mk 7 0 [u, t]) l = evalOk (.mk 4 0 [t, u]) l := (ok_swap 7).trans hr7
  have H6 := hid hr6
  have H7 := hid hr7
  have H7' := hid hr7'
  clear hr6 hr7 hr7'
  cases hpb : evalOk t l with
  | false =>
    rw [hpb] at *
    clear HDU
    go_wp2_with fail
    go_ret
    exact Ret.mk (by simp) B1
  | true =>
  cases hqb : evalOk u l with
  | false =>
    rw [hpb] at *
    clear HDU
    go_wp2_with fail
    go_ret
    exact Ret.mk (by simp) B1
  | true =>
    have HDU2 := hid (fun h => HDU.out h hpb)
    rw [hpb] at *
    clear hpb hqb HDU
    have HKs := hid (TrsIn_two (ty := 25) hx4 hy4 rfl)
    have HT2 := hid (fun k (hk : i64 k) => TrIn_two (k := k) (ty := 25) hk hx4 hy4 rfl)
    go_wp2_with fail
    refine (HE.out (.mk 4 0 [t, u]) _ _ (below_a M3 _) (HT2.out 4 (by unfold i64; omega))).mono ?_
    rintro e w5 ⟨rfl, hb5⟩
    have M5 := below_next (below_a M3 _) hb5
    have B5 := below_next (below_a B1 _) hb5
    have K5 := TrsIn_below hb5 HKs.out
    obtain ⟨b5, b7⟩ := BX.out
    replace hb5 := below_next (below_alloc _ _) hb5
    replace b5 := box3_next hb5 b5
    replace b7 := box3_next hb5 b7
    clear hb5 HKs M3 B1 p0 p1 p2 p3 p4 q0 q1 q2 q3 q4
    have H1 := hid (TrIn_half (k := 3) (c := 2) (by unfold i64; omega) K5 (by omega) (by simp [maxLen])).1
    have H2 := hid (TrIn_half (k := 3) (c := 1) (by unfold i64; omega) K5 (by omega) (by simp [maxLen])).2
    go_wp2_with fail
    go_region_held3 (fun _ => True) (exact trivial)
      ((go_at_call 16; refine (HE.out (.mk 5 0 [.mk 3 0 [t], .mk 3 0 [u]]) _ _ (below_next M5 (below_a (below_d (Below.refl w5.heap.size w5)) _)) (TrIn_two (w := w5.drew) (by unfold i64; omega) (TrIn_below (below_d (Below.refl w5.heap.size w5)) H1.out) (TrIn_below (below_d (Below.refl w5.heap.size w5)) H2.out) rfl)).mono ?_; rintro e w6 ⟨rfl, hb6⟩; have M6 := below_next (show Below w5.heap.size w5 _ from (by repeat (first | exact Below.refl _ _ | assumption | refine below_a ?_ _ | refine below_o ?_ _ | refine below_d ?_ | refine below_n ?_ _ | refine below_s ?_ (by first | (simp; done) | (simp; omega) | omega) _))) hb6; clear hb6))
    all_goals
      have BB := hid (And.intro (box3_next M6 b5) (box3_next M6 b7))
      have K6 := TrsIn_below M6 K5
      have B6 := below_next B5 M6
      have N6 := below_next M5 M6
      clear b5 b7 K5 B5 M5 M6
      go_wp2_with fail
      refine (HE.out (.mk 7 0 [t, u]) _ _ N6 (TrIn_ofRow (by unfold i64; omega) K6 (by simp) (by simp [maxLen]))).mono ?_
      rintro e w7 ⟨rfl, hb7⟩
      replace BB := hid (And.intro (box3_next hb7 BB.out.1) (box3_next hb7 BB.out.2))
      replace K6 := TrsIn_below hb7 K6
      replace B6 := below_next B6 hb7
      replace N6 := below_next N6 hb7
      clear hb7
      go_wp2_with fail
      refine (HE.out (.mk 6 0 [t, u]) _ _ N6 (TrIn_ofRow (by unfold i64; omega) K6 (by simp) (by simp [maxLen]))).mono ?_
      rintro e w8 ⟨rfl, hb8⟩
      obtain ⟨b5, b7⟩ := BB.out
      replace b5 := box3_next hb8 b5
      replace b7 := box3_next hb8 b7
      replace B6 := below_next B6 hb8
      replace N6 := below_next N6 hb8
      clear hb8 BB K6
      obtain ⟨p0, p1, p2, p3, p4⟩ := b5
      obtain ⟨q0, q1, q2, q3, q4⟩ := b7
      go_wp2_with fail
      refine (HE.out (.mk 7 0 [u, t]) _ _ (below_a N6 _) (TrIn_two (by unfold i64; omega) (TrIn_below N6 hy) (TrIn_below N6 hx) rfl)).mono ?_
      rintro e w9 ⟨rfl, hb9⟩
      have B9 := below_next (below_a B6 _) hb9
      rw [H6.out, H7.out, H7'.out]
      clear hb9 N6 B6 HE HSE H6 H7 H7'
      generalize evalOk (.mk 4 0 [t, u]) l = rb at *
      generalize evalOk (.mk 5 0 [.mk 3 0 [t], .mk 3 0 [u]]) l = sb at *
      generalize evalV (.mk 4 0 [t, u]) l = av at *
      generalize evalV (.mk 5 0 [.mk 3 0 [t], .mk 3 0 [u]]) l = ov at *
      generalize evalV (.mk 7 0 [t, u]) l = lv at *
      generalize evalV (.mk 6 0 [t, u]) l = ev at *
      generalize evalV (.mk 7 0 [u, t]) l = gv at *
      generalize evalV t l = xv at *
      generalize evalV u l = yv at *
      cases rb
      · go_wp2_with fail
        go_ret
        exact Ret.mk (by simp) B9
      · obtain ⟨f1, f2, f3⟩ := HDU2.out rfl
        clear HDU2
        have hfin : (sb = false ∨ (sb = true ∧ (av == 1 - ov) = true ∧ 0 ≤ ov ∧ ov ≤ 1)) ∧ ((xv = yv ∧ lv = 0 ∧ ev = 1 ∧ gv = 0) ∨ ((xv == yv) = false ∧ ev = 0 ∧ ((lv = 1 ∧ gv = 0) ∨ (lv = 0 ∧ gv = 1)))) := by
          refine ⟨?_, ?_⟩
          · cases sb
            · exact .inl rfl
            · obtain ⟨g1, g2, g3⟩ := f1 rfl
              exact .inr ⟨rfl, by simpa using g1, g2, g3⟩
          · by_cases e : xv = yv
            · exact .inl ⟨e, f2 e⟩
            · obtain ⟨g1, g2⟩ := f3 e
              exact .inr ⟨by simpa using e, g1, g2⟩
        clear f1 f2 f3
        obtain ⟨h1, h2⟩ := hfin
        rcases h1 with rfl | ⟨rfl, ha, ho1, ho2⟩ <;> rcases h2 with ⟨rfl, rfl, rfl, rfl⟩ | ⟨hxy, rfl, ⟨rfl, rfl⟩ | ⟨rfl, rfl⟩⟩
        all_goals
          go_wp2_with fail
          go_ret
          exact Ret.mk (by simp) B9
end Go.Proofs.Ytplogaapgolaiaa
