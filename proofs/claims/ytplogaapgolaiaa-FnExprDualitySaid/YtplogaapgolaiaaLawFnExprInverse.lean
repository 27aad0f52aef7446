/- FnExprInverse returns true for all arguments. Conditions: none. -/
import Derived.Test.YtplogaapgolaiaaEvalDraw
import Derived.Test.YtplogaapgolaiaaEvalX
import Derived.Test.YtplogaapgolaiaaTreeMade
import Derived.Test.YtplogaapgolaiaaKidsPlain
namespace Go.Proofs.Ytplogaapgolaiaa
open Go.RowKit
open Go.Proofs.Ytplogaapgolaiaa.Expr

theorem gOf_bd {l : List Int} (h : okVals l = true) : ∀ v, 0 ≤ v → v ≤ 2 → 0 ≤ gOf l v ∧ gOf l v ≤ 3 := by
  rw [okVals, Bool.and_eq_true, decide_eq_true_eq] at h
  obtain ⟨ho, hl⟩ := h
  obtain ⟨x, y, z, rfl⟩ : ∃ x y z, l = [x, y, z] := by
    match l, hl with
    | [x, y, z], _ => exact ⟨x, y, z, rfl⟩
  simp [inV] at ho
  intro v h1 h2
  rcases (by omega : v = 0 ∨ v = 1 ∨ v = 2) with rfl | rfl | rfl <;> simp [gOf] <;> omega
theorem evalOk_kid {t u : Tr} {l : List Int} (h : evalOk t l = true) (hu : u ∈ t.kids) : evalOk u l = true := by
  rw [evalOk, Bool.and_eq_true] at h ⊢
  refine ⟨?_, h.2⟩
  cases t with
  | mk k v kids => exact exprL.valid_kid h.1 hu
theorem evalV_bd {t : Tr} {l : List Int} (h : evalOk t l = true) : 0 ≤ evalT (gOf l) t ∧ evalT (gOf l) t ≤ 3 ∧ evalV t l = evalT (gOf l) t := by
  have h0 := h
  rw [evalOk, Bool.and_eq_true] at h
  have := evalT_bd _ (gOf_bd h.2) 6 t (valid_shape h.1)
  exact ⟨this.1, this.2, by rw [evalV, if_pos h0]⟩
theorem eval_inverse {a b : Tr} {l : List Int} (h : evalOk (.mk 9 0 [.mk 8 0 [a, b], b]) l = true) : evalV (.mk 9 0 [.mk 8 0 [a, b], b]) l = evalV a l := by
  have hb : evalOk b l = true := evalOk_kid h (by simp [Tr.kids])
  have hs : evalOk (.mk 8 0 [a, b]) l = true := evalOk_kid h (by simp [Tr.kids])
  have ha : evalOk a l = true := evalOk_kid hs (by simp [Tr.kids])
  have h1 := evalV_bd ha
  have h2 := evalV_bd hb
  rw [(evalV_bd h).2.2, h1.2.2]
  simp [evalT, evalTs, nodeVal]
  omega

set_option maxRecDepth 100000 in
set_option maxHeartbeats 4000000 in
theorem walk_FnExprInverse (w : World) (a a' : Option Addr) (len cap len' cap' : Nat) (hb : ByteArg w a len cap) (hb' : ByteArg w a' len' cap') : Calls Try.prog 5 #[.slice a len cap, .slice a' len' cap'] w (Ret (.bool true) w) := by
  have hcap := hb.2.1
  have hcap1 := hb.1
  have hcap' := hb'.2.1
  have hcap1' := hb'.1
  unfold maxLen at hcap hcap'
  by_cases hlen : len > 1048576
  · have hlen2 : (len : Int) > 1048576 := by omega
    go_enter Try.func5, Try.ntmps5
    go_wp2_with fail
    go_ret
    exact Ret.mk rfl (by repeat (first | exact Below.refl _ _ | assumption | refine below_a ?_ _ | refine below_o ?_ _ | refine below_d ?_ | refine below_n ?_ _ | refine below_s ?_ (by first | (simp; done) | (simp; omega) | omega) _))
  have hlen2 : ¬ ((len : Int) > 1048576) := by omega
  by_cases hlen' : len' > 1048576
  · have hlen3 : (len' : Int) > 1048576 := by omega
    go_enter Try.func5, Try.ntmps5
    go_wp2_with fail
    go_ret
    exact Ret.mk rfl (by repeat (first | exact Below.refl _ _ | assumption | refine below_a ?_ _ | refine below_o ?_ _ | refine below_d ?_ | refine below_n ?_ _ | refine below_s ?_ (by first | (simp; done) | (simp; omega) | omega) _))
  have hlen3 : ¬ ((len' : Int) > 1048576) := by omega
  go_enter Try.func5, Try.ntmps5
  go_wp2_with fail
  refine (Expr.drawEval_any _ a len cap hb).mono ?_
  rintro e w1 ⟨x, v, t, l, rfl, hn, hnt, hV, hl3, hi, B1⟩
  obtain ⟨a1, n1, rfl⟩ := TrIn_shape hn.any
  obtain ⟨aV, cV, bV, rfl, hcV, hcV2, oV, gV⟩ := hV
  rw [List.length_map] at hcV ⊢
  have hI : IntsIn Any w1 aV l := ⟨oV.any, hi⟩
  have hx := hn.any
  clear hn oV gV hb
  go_wp2_with fail
  refine (Expr.drawEval_any _ a' len' cap' (hb'.next (by repeat (first | exact Below.refl _ _ | assumption | refine below_a ?_ _ | refine below_o ?_ _ | refine below_d ?_ | refine below_n ?_ _ | refine below_s ?_ (by first | (simp; done) | (simp; omega) | omega) _)))).mono ?_
  rintro e w2 ⟨x', v', u, l', rfl, hn', hnt', hV', hl3', hi', hb2⟩
  obtain ⟨a2, n2, rfl⟩ := TrIn_shape hn'.any
  obtain ⟨aV', cV', bV', rfl, _, _, _, _⟩ := hV'
  have b5 := box3_next hb2 (box3_new w1 (.int .i64 t.kind) (.int .i64 t.val) (.slice a1 t.kids.length n1) 25)
  replace hb2 := below_next (below_alloc _ _) hb2
  replace B1 := below_next B1 hb2
  replace hx := TrIn_below hb2 hx
  replace hI := hI.below hb2
  have hy := hn'.any
  clear hb2 hn' hb'
  have HE := hid (fun (t : Tr) (w' : World) x (M : Below w2.heap.size w2 w') (hx : TrIn Any w' t x) => Expr.eval_any t l w' x aV cV hx (hI.below M) hcV hcV2)
  have HSE := hid (fun (w' : World) (M : Below w2.heap.size w2 w') => Expr.specEval_any t l w' _ aV cV (TrIn_below M hx) (hI.below M) hcV hcV2)
  have HIV := hid (fun h => eval_inverse (a := t) (b := u) (l := l) h)
  have hee : (evalV t l != evalV t l) = false := by simp
  have hee2 : (evalV t l == evalV t l) = true := by simp
  have hpp : (evalOk t l != evalOk t l) = false := by simp
  have hpp2 : (evalOk t l == evalOk t l) = true := by simp
  clear hI
  go_wp2_with fail
  refine (HE.out t _ _ (by repeat (first | exact Below.refl _ _ | assumption | refine below_a ?_ _ | refine below_o ?_ _ | refine below_d ?_ | refine below_n ?_ _ | refine below_s ?_ (by first | (simp; done) | (simp; omega) | omega) _)) (TrIn_below (by repeat (first | exact Below.refl _ _ | assumption | refine below_a ?_ _ | refine below_o ?_ _ | refine below_d ?_ | refine below_n ?_ _ | refine below_s ?_ (by first | (simp; done) | (simp; omega) | omega) _)) hx)).mono ?_
  rintro e w3 ⟨rfl, hb3⟩
  have b7 := box3_next hb3 (box3_new w2 (.int .i64 u.kind) (.int .i64 u.val) (.slice a2 u.kids.length n2) 25)
  replace hb3 := below_next (below_alloc _ _) hb3
  have M3 := hb3
  replace b5 := box3_next hb3 b5
  replace B1 := below_next B1 hb3
  clear hb3
  go_wp2_with fail
  refine (HSE.out _ (by repeat (first | exact Below.refl _ _ | assumption | refine below_a ?_ _ | refine below_o ?_ _ | refine below_d ?_ | refine below_n ?_ _ | refine below_s ?_ (by first | (simp; done) | (simp; omega) | omega) _))).mono ?_
  rintro e w4 ⟨rfl, hb4⟩
  replace b7 := box3_next hb4 b7
  replace b5 := box3_next hb4 b5
  replace B1 := below_next B1 hb4
  replace M3 := below_next M3 hb4
  clear hb4
  have hx4 := TrIn_below M3 hx
  have hy4 := TrIn_below M3 hy
  obtain ⟨p0, p1, p2, p3, p4⟩ := b5
  obtain ⟨q0, q1, q2, q3, q4⟩ := b7
  have HT2 := hid (TrIn_two (k := 8) (ty := 25) (by unfold i64; omega) hx4 hy4 rfl)
  go_wp2_with fail
  refine (HE.out (.mk 9 0 [.mk 8 0 [t, u], u]) _ _ (below_a (below_a (below_a M3 _) _) _) (TrIn_two (by unfold i64; omega) (TrIn_below (below_alloc _ _) HT2.out) (TrIn_below (below_next (below_alloc _ _) (below_alloc _ _)) hy4) (by simp))).mono ?_
  rintro e w5 ⟨rfl, hb5⟩
  have B5 := below_next (below_a (below_a (below_a B1 _) _) _) hb5
  clear hb5 M3 B1 HT2 hx4 hy4 HE HSE
  generalize evalOk (.mk 9 0 [.mk 8 0 [t, u], u]) l = qb at *
  generalize evalV (.mk 9 0 [.mk 8 0 [t, u], u]) l = qv at *
  generalize evalOk t l = pb at *
  generalize evalV t l = pv at *
  cases pb
  · go_wp2_with fail
    go_ret
    exact Ret.mk (by simp) B5
  · cases qb
    · go_wp2_with fail
      go_ret
      exact Ret.mk (by simp) B5
    · obtain rfl := HIV.out rfl
      go_wp2_with fail
      go_ret
      exact Ret.mk (by simp) B5
end Go.Proofs.Ytplogaapgolaiaa
