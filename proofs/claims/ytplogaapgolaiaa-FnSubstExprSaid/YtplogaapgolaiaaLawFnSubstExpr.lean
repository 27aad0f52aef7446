/- FnSubstExpr returns true for all arguments. Conditions: none. -/
import Derived.Test.YtplogaapgolaiaaSubstDraw
import Derived.Test.YtplogaapgolaiaaEvalX
import Derived.Test.YtplogaapgolaiaaSubstX
import Derived.Test.YtplogaapgolaiaaSubstY
import Derived.Test.YtplogaapgolaiaaAppInts
import Derived.Test.YtplogaapgolaiaaExprSame
import Derived.Test.YtplogaapgolaiaaMore
namespace Go.Proofs.Ytplogaapgolaiaa
open Go.RowKit
open Go.Proofs.Ytplogaapgolaiaa.Expr

-- the value of a tree in which another was put for a variable
mutual
theorem evalT_sub (g : Int → Int) (x : Int) (y : Tr) : ∀ (t : Tr) (d : Int), exprL.shape t d = true → evalT g (subT x y t) = evalT (fun v => if v = x then evalT g y else g v) t
  | .mk k v kids, d, hs => by
    have hs0 := hs
    simp only [Lang.shape, Bool.and_eq_true, Lang.okB_iff] at hs
    obtain ⟨_, ⟨⟨k1, k9⟩, _, har⟩, hsl⟩ := hs
    have hk := evalTs_sub g x y kids (d - 1) hsl
    rw [exprL_ar] at har
    rw [exprL_K] at k9
    by_cases hx : k = 2 ∧ v = x
    · obtain ⟨rfl, rfl⟩ := hx
      obtain rfl := len0 (by simpa using har)
      simp [subT, evalT, evalTs, nodeVal]
    · rw [subT, if_neg hx]
      simp only [evalT, hk]
      match kids, har with
      | [], har =>
        simp only [evalTs, nodeVal]
        by_cases hk1 : k = 1
        · simp [hk1]
        · have hk2 : k = 2 := by
            by_cases h2 : k = 2
            · exact h2
            · rw [if_neg (by omega)] at har
              by_cases h3 : k = 3
              · rw [if_pos h3] at har; simp at har
              · rw [if_neg h3] at har; simp at har
          have hv : v ≠ x := fun e => hx ⟨hk2, e⟩
          rw [if_neg hk1, if_neg hk1, if_neg hv]
      | [_], _ => simp only [evalTs, nodeVal]
      | _ :: _ :: _, _ => simp only [evalTs, nodeVal]
theorem evalTs_sub (g : Int → Int) (x : Int) (y : Tr) : ∀ (l : List Tr) (d : Int), exprL.shapeL l d = true → evalTs g (subL x y l) = evalTs (fun v => if v = x then evalT g y else g v) l
  | [], _, _ => by simp [subL, evalTs]
  | t :: ts, d, hs => by
    simp only [Lang.shapeL, Bool.and_eq_true] at hs
    simp only [subL, evalTs]
    rw [evalT_sub g x y t d hs.1, evalTs_sub g x y ts d hs.2]
end
mutual
theorem evalT_ext (g g' : Int → Int) : ∀ (t : Tr) (d : Int), exprL.shape t d = true → (∀ v, 0 ≤ v → v ≤ 2 → g v = g' v) → evalT g t = evalT g' t
  | .mk k v kids, d, hs, h => by
    simp only [Lang.shape, Bool.and_eq_true, Lang.okB_iff] at hs
    obtain ⟨_, ⟨⟨k1, k9⟩, ⟨v0, v1⟩, har⟩, hsl⟩ := hs
    have hk := evalTs_ext g g' kids (d - 1) hsl h
    simp only [evalT, hk]
    rw [exprL_ar] at har
    rw [exprL_K] at k9
    match kids, har with
    | [], har =>
      simp only [evalTs, nodeVal]
      by_cases hk1 : k = 1
      · simp [hk1]
      · have hk2 : k = 2 := by
          by_cases h2 : k = 2
          · exact h2
          · rw [if_neg (by omega)] at har
            by_cases h3 : k = 3
            · rw [if_pos h3] at har; simp at har
            · rw [if_neg h3] at har; simp at har
        rw [if_neg hk1, if_neg hk1]
        rw [exprL_most, if_neg hk1, if_pos hk2] at v1
        exact h v v0 v1
    | [_], _ => simp only [evalTs, nodeVal]
    | _ :: _ :: _, _ => simp only [evalTs, nodeVal]
theorem evalTs_ext (g g' : Int → Int) : ∀ (l : List Tr) (d : Int), exprL.shapeL l d = true → (∀ v, 0 ≤ v → v ≤ 2 → g v = g' v) → evalTs g l = evalTs g' l
  | [], _, _, _ => rfl
  | t :: ts, d, hs, h => by
    simp only [Lang.shapeL, Bool.and_eq_true] at hs
    simp only [evalTs]
    rw [evalT_ext g g' t d hs.1 h, evalTs_ext g g' ts d hs.2 h]
end
theorem evalV_eq {t : Tr} {l : List Int} (h : evalOk t l = true) : evalV t l = evalT (gOf l) t := by rw [evalV, if_pos h]
theorem sub_facts {x : Int} {t y : Tr} {l : List Int} (h : subOk x t y = true) (hp : evalOk y l = true) : (0 ≤ x ∧ x ≤ 2) ∧ l.length = 3 ∧ evalOk (subV x t y) l = true ∧ evalOk t (l.set x.toNat (evalV y l)) = true ∧ evalV t (l.set x.toNat (evalV y l)) = evalV (subV x t y) l ∧ 0 ≤ evalV y l ∧ evalV y l ≤ 3 := by
  have h0 := h
  simp only [subOk, Bool.and_eq_true] at h
  obtain ⟨hvt, hvy, hx, hvs⟩ := h
  have hx' : 0 ≤ x ∧ x ≤ 2 := by simpa [inB] using hx
  have e : subV x t y = subT x y t := by rw [subV, if_pos h0]
  have hp0 := hp
  rw [evalOk, Bool.and_eq_true] at hp
  have ho := hp.2
  have hgb : ∀ v, 0 ≤ v → v ≤ 2 → 0 ≤ gOf l v ∧ gOf l v ≤ 3 := by
    rw [okVals, Bool.and_eq_true, decide_eq_true_eq] at ho
    obtain ⟨ho, hl⟩ := ho
    obtain ⟨x, y, z, rfl⟩ : ∃ x y z, l = [x, y, z] := by
      match l, hl with
      | [x, y, z], _ => exact ⟨x, y, z, rfl⟩
    simp [inV] at ho
    intro v h1 h2
    rcases (by omega : v = 0 ∨ v = 1 ∨ v = 2) with rfl | rfl | rfl <;> simp [gOf] <;> omega
  have hyb := evalT_bd _ hgb 6 y (valid_shape hvy)
  have ey : evalV y l = evalT (gOf l) y := by rw [evalV, if_pos hp0]
  have hl : l.length = 3 := by rw [okVals, Bool.and_eq_true, decide_eq_true_eq] at ho; exact ho.2
  have hall : ∀ n, n ∈ l → 0 ≤ n ∧ n ≤ 3 := by
    rw [okVals, Bool.and_eq_true] at ho
    intro n hn
    simpa [inV] using List.all_eq_true.1 ho.1 n hn
  have hok2 : okVals (l.set x.toNat (evalV y l)) = true := by
    rw [okVals, Bool.and_eq_true, decide_eq_true_eq]
    refine ⟨List.all_eq_true.2 fun n hn => ?_, by rw [List.length_set]; exact hl⟩
    rcases List.mem_or_eq_of_mem_set hn with h | h
    · have := hall n h; simp [inV]; omega
    · rw [h, ey]; simp [inV]; omega
  have h1 : evalOk (subT x y t) l = true := by rw [evalOk, hvs, ho]; rfl
  have h2 : evalOk t (l.set x.toNat (evalV y l)) = true := by rw [evalOk, hvt, hok2]; rfl
  refine ⟨hx', hl, by rw [e]; exact h1, h2, ?_, by omega, by omega⟩
  rw [e, evalV_eq h2, evalV_eq h1, evalT_sub (gOf l) x y t 6 (valid_shape hvt)]
  refine evalT_ext _ _ t 6 (valid_shape hvt) fun v h0 h2 => ?_
  rw [ey]
  obtain ⟨n, rfl⟩ := Int.eq_ofNat_of_zero_le h0
  obtain ⟨m, rfl⟩ := Int.eq_ofNat_of_zero_le hx'.1
  by_cases hnm : n = m
  · subst hnm
    simp [gOf, List.getD_eq_getElem?_getD, show n < l.length by omega]
  · have : ¬ ((n : Int) = (m : Int)) := by omega
    simp [gOf, this, List.getD_eq_getElem?_getD, show ¬ m = n from fun h => hnm h.symm]

set_option maxRecDepth 100000 in
set_option maxHeartbeats 4000000 in
theorem walk_FnSubstExpr (w : World) (a a' : Option Addr) (len cap len' cap' : Nat) (hb : ByteArg w a len cap) (hb' : ByteArg w a' len' cap') : Calls Try.prog 7 #[.slice a len cap, .slice a' len' cap'] w (Ret (.bool true) w) := by
  have hcap := hb.2.1
  have hcap1 := hb.1
  have hcap' := hb'.2.1
  have hcap1' := hb'.1
  unfold maxLen at hcap hcap'
  by_cases hlen : len > 1048576
  · have hlen2 : (len : Int) > 1048576 := by omega
    go_enter Try.func7, Try.ntmps7
    go_wp2_with fail
    go_ret
    exact Ret.mk rfl (by repeat (first | exact Below.refl _ _ | assumption | refine below_a ?_ _ | refine below_o ?_ _ | refine below_d ?_ | refine below_n ?_ _ | refine below_s ?_ (by first | (simp; done) | (simp; omega) | omega) _))
  have hlen2 : ¬ ((len : Int) > 1048576) := by omega
  by_cases hlen' : len' > 1048576
  · have hlen3 : (len' : Int) > 1048576 := by omega
    go_enter Try.func7, Try.ntmps7
    go_wp2_with fail
    go_ret
    exact Ret.mk rfl (by repeat (first | exact Below.refl _ _ | assumption | refine below_a ?_ _ | refine below_o ?_ _ | refine below_d ?_ | refine below_n ?_ _ | refine below_s ?_ (by first | (simp; done) | (simp; omega) | omega) _))
  have hlen3 : ¬ ((len' : Int) > 1048576) := by omega
  go_enter Try.func7, Try.ntmps7
  go_wp2_with fail
  refine (Expr.drawSubst_any _ a len cap hb).mono ?_
  rintro e w1 ⟨x, z, t, y, k, rfl, hn, hnt, hny, hnyt, hkk, B1⟩
  obtain ⟨a1, n1, rfl⟩ := TrIn_shape hn.any
  obtain ⟨a2, n2, rfl⟩ := TrIn_shape hny.any
  have hx := hn.any
  have hy := hny.any
  clear hn hny hb
  go_wp2_with fail
  refine (Expr.drawEval_any _ a' len' cap' (hb'.next (by repeat (first | exact Below.refl _ _ | assumption | refine below_a ?_ _ | refine below_o ?_ _ | refine below_d ?_ | refine below_n ?_ _ | refine below_s ?_ (by first | (simp; done) | (simp; omega) | omega) _)))).mono ?_
  rintro e w2 ⟨x', v', u, l, rfl, hn', hnt', hV', hl3', hi', hb2⟩
  obtain ⟨a3, n3, rfl⟩ := TrIn_shape hn'.any
  obtain ⟨aV, cV, bV, rfl, hcV, hcV2, oV, gV⟩ := hV'
  rw [List.length_map] at hcV ⊢
  have hI : IntsIn Any w2 aV l := ⟨oV.any, hi'⟩
  have b5 := box3_next hb2 (box3_next (below_alloc _ _) (box3_new w1 (.int .i64 t.kind) (.int .i64 t.val) (.slice a1 t.kids.length n1) 25))
  have b7 := box3_next hb2 (box3_at (B := w1.heap.size + 1) (a := .int .i64 y.kind) (b := .int .i64 y.val) (c := .slice a2 y.kids.length n2) (t := 25) (by simp))
  replace hb2 := below_next (below_next (below_alloc _ _) (below_alloc _ _)) hb2
  replace B1 := below_next B1 hb2
  replace hx := TrIn_below hb2 hx
  replace hy := TrIn_below hb2 hy
  clear oV gV hn' hb' hb2
  have hst := small_nodes t (by omega)
  have hsy := small_nodes y (by omega)
  have HS := hid (fun (w' : World) (M : Below w2.heap.size w2 w') => Expr.subst_any k t y w' _ _ (TrIn_below M hx) (TrIn_below M hy) hst hsy)
  have HSS := hid (fun (w' : World) (M : Below w2.heap.size w2 w') => Expr.specSubst_any k t y w' _ _ (TrIn_below M hx) (TrIn_below M hy) hst hsy)
  have HEY := hid (fun (w' : World) (M : Below w2.heap.size w2 w') => Expr.eval_any y l w' _ aV cV (TrIn_below M hy) (hI.below M) hcV hcV2)
  have HSA := hid (fun (r : Tr) (w : World) x y (h1 : TrIn Any w r x) (h2 : TrIn Any w r y) => (show Calls Try.prog 21 #[x, y] w (Ret (.bool true) w) by have := Expr.same_any r w r x y h1 h2; rw [eqT_refl] at this; exact this))
  have HF := hid (fun h1 h2 => sub_facts (x := k) (t := t) (y := y) (l := l) h1 h2)
  have hbb : (subOk k t y != subOk k t y) = false := by simp
  have hbb2 : (subOk k t y == subOk k t y) = true := by simp
  generalize subV k t y = r at *
  generalize subOk k t y = rb at *
  have c5 := b5
  have c7 := b7
  obtain ⟨p0, p1, p2, p3, p4⟩ := b5
  obtain ⟨q0, q1, q2, q3, q4⟩ := b7
  go_wp2_with fail
  refine (HS.out _ (by repeat (first | exact Below.refl _ _ | assumption | refine below_a ?_ _ | refine below_o ?_ _ | refine below_d ?_ | refine below_n ?_ _ | refine below_s ?_ (by first | (simp; done) | (simp; omega) | omega) _))).mono ?_
  rintro e w3 ⟨vG, rfl, hG, hb3⟩
  obtain ⟨aG, cG, rfl⟩ := TrIn_shape hG.any
  replace hb3 := below_next (below_alloc _ _) hb3
  have M3 := hb3
  replace c5 := box3_next hb3 c5
  replace c7 := box3_next hb3 c7
  replace B1 := below_next B1 hb3
  have hGa := hG.any
  clear hb3 hG p0 p1 p2 p3 p4 q0 q1 q2 q3 q4
  have d5 := c5
  have d7 := c7
  obtain ⟨p0, p1, p2, p3, p4⟩ := d5
  obtain ⟨q0, q1, q2, q3, q4⟩ := d7
  go_wp2_with fail
  refine (HSS.out _ (below_a M3 _)).mono ?_
  rintro e w4 ⟨vW, rfl, hW, hb4⟩
  obtain ⟨aW, cW, rfl⟩ := TrIn_shape hW.any
  have b10 := box3_next hb4 (box3_new w3 (.int .i64 r.kind) (.int .i64 r.val) (.slice aG r.kids.length cG) 25)
  replace hb4 := below_next (below_alloc _ _) hb4
  replace M3 := below_next M3 hb4
  replace c5 := box3_next hb4 c5
  replace c7 := box3_next hb4 c7
  replace B1 := below_next B1 hb4
  replace hGa := TrIn_below hb4 hGa
  have hWa := hW.any
  clear hb4 hW p0 p1 p2 p3 p4 q0 q1 q2 q3 q4
  have d7 := c7
  obtain ⟨q0, q1, q2, q3, q4⟩ := d7
  go_wp2_with fail
  refine (HEY.out _ (below_a M3 _)).mono ?_
  rintro e w5 ⟨rfl, hb5⟩
  have b12 := box3_next hb5 (box3_new w4 (.int .i64 r.kind) (.int .i64 r.val) (.slice aW r.kids.length cW) 25)
  replace hb5 := below_next (below_alloc _ _) hb5
  replace M3 := below_next M3 hb5
  replace b10 := box3_next hb5 b10
  replace c5 := box3_next hb5 c5
  replace B1 := below_next B1 hb5
  replace hGa := TrIn_below hb5 hGa
  replace hWa := TrIn_below hb5 hWa
  clear hb5 c7 q0 q1 q2 q3 q4
  have d10 := b10
  have d12 := b12
  obtain ⟨i0, i1, i2, i3, i4⟩ := d10
  obtain ⟨j0, j1, j2, j3, j4⟩ := d12
  go_wp2_with fail
  refine (HSA.out r _ _ _ hGa hWa).mono ?_
  rintro e w6 ⟨rfl, hb6⟩
  replace M3 := below_next M3 hb6
  replace b10 := box3_next hb6 b10
  replace b12 := box3_next hb6 b12
  replace c5 := box3_next hb6 c5
  replace B1 := below_next B1 hb6
  replace hGa := TrIn_below hb6 hGa
  replace hWa := TrIn_below hb6 hWa
  clear hb6 i0 i1 i2 i3 i4 j0 j1 j2 j3 j4
  have hback : rb = false ∨ (rb = true ∧ evalOk y l = false) ∨ (rb = true ∧ evalOk y l = true) := by cases rb <;> cases evalOk y l <;> simp
  have d10 := b10
  have d12 := b12
  obtain ⟨i0, i1, i2, i3, i4⟩ := d10
  obtain ⟨j0, j1, j2, j3, j4⟩ := d12
  rcases hback with hrb | ⟨hrb, hpb⟩ | ⟨hrb, hpb⟩
  · subst hrb
    clear HF
    go_wp2_with fail
    refine (HSA.out r _ _ _ hGa hWa).mono ?_
    rintro e w7 ⟨rfl, hb7⟩
    replace B1 := below_next B1 hb7
    go_wp2_with fail
    go_ret
    exact Ret.mk rfl B1
  · subst hrb
    rw [hpb] at *
    clear HF
    go_wp2_with fail
    refine (HSA.out r _ _ _ hGa hWa).mono ?_
    rintro e w7 ⟨rfl, hb7⟩
    replace B1 := below_next B1 hb7
    go_wp2_with fail
    go_ret
    exact Ret.mk rfl B1
  · obtain ⟨hk, hl, hok1, hok2, hev, hv0, hv3⟩ := HF.out hrb hpb
    subst hrb
    rw [hpb] at *
    clear HF hpb HS HSS HEY
    obtain ⟨m, rfl⟩ := Int.eq_ofNat_of_zero_le hk.1
    have hm : m < 3 := by omega
    simp only [Int.toNat_natCast] at hok2 hev
    generalize evalV y l = vy at *
    have hI6 := hI.below M3
    have HT6 := hid (TrIn_below M3 hx)
    obtain ⟨bv, ov, rfl, hbv⟩ : ∃ b o, aV = some ⟨b, o, none⟩ ∧ b < w6.heap.size := by
      obtain ⟨b, o, h1, h2, _⟩ := ints_at (k := 0) hI6 (Below.refl _ _) (by omega)
      exact ⟨b, o, h1, h2⟩
    have HE1 := hid (fun (w' : World) (M : Below w6.heap.size w6 w') => Expr.eval_any r l w' _ (some ⟨bv, ov, none⟩) cV (TrIn_below M hGa) (hI6.below M) hcV hcV2)
    have he1 := HE1.out
    rw [hok1] at he1
    replace HE1 := hid he1
    have HOK2 := hid hok2
    have HEV := hid hev
    have HI6 := hid hI6
    have hset : (l.set m vy).length = 3 := by rw [List.length_set]; exact hl
    have HSET := hid hset
    have hcV3 : 3 ≤ cV := by omega
    have HCV2 := hid hcV2
    clear hok1 hok2 hev hx hy he1 hI hset hWa
    have hl' := hid hl
    rw [hl] at HE1
    simp only [hl]
    go_wp2_with (refine wp_app_ints rfl (.tmp 85) (.tmp 86) rfl ⟨bv, ov, none⟩ l cV rfl (by rw [hl'.out]; rfl) HI6.out (by have := hl'.out; omega) ?_)
    intro vO wO hO bO
    obtain ⟨aN, cN, bN, rfl, hcN, hcN2, oN, gN⟩ := hO
    rw [List.length_map, hl'.out] at hcN ⊢
    obtain ⟨RO, rfl, rfl, hrow⟩ : ∃ RO, aN = some ⟨RO, 0, none⟩ ∧ bN = [RO] ∧ Row wO RO 3 (fun i => (l.map (Value.int .i64)).getD i undef) := by
      rcases oN with ⟨h, _⟩ | ⟨RO, h1, h2, h3⟩
      · exfalso
        have := congrArg List.length h
        rw [List.length_map, hl'.out] at this
        simp at this
      · exact ⟨RO, h1, h2, by rw [List.length_map, hl'.out] at h3; exact h3⟩
    have hRO := gN RO (by simp)
    have r0 := hrow.2.1 m hm
    have rz := hrow.2.2
    have rl := hrow.1
    have HIN := hid (show IntsIn Any (wO.setCell ⟨RO, m, none⟩ (.int .i64 vy)) (some ⟨RO, 0, none⟩) (l.set m vy) from Row.ints (by
        rw [HSET.out]
        refine (hrow.set hm (.int .i64 vy)).congr fun i hi => ?_
        have hi' : i < l.length := by rw [hl'.out]; exact hi
        by_cases e : i = m
        · subst e; simp [List.getD_eq_getElem?_getD, hi']
        · simp [e, List.getD_eq_getElem?_getD, show ¬ m = i from fun h => e h.symm, List.getElem?_eq_getElem hi']) (fun n hn => by
        rcases List.mem_or_eq_of_mem_set hn with h | h
        · exact HI6.out.2 n h
        · rw [h]; unfold i64; omega) trivial)
    have MO : Below w6.heap.size w6 (wO.setCell ⟨RO, m, none⟩ (.int .i64 vy)) := bO.setCell hRO _
    have HMO := hid MO
    have d10 := box3_next bO b10
    have d5 := box3_next bO c5
    have HD5 := hid (box3_next MO c5)
    have hne : RO ≠ w3.heap.size := by have := b10.1; omega
    clear oN gN hrow bO MO i0 i1 i2 i3 i4 j0 j1 j2 j3 j4 b12 b10 c5 hI6
    obtain ⟨i0, i1, i2, i3, i4⟩ := d10
    unfold maxLen at hcN2
    go_wp2_with fail
    refine (HE1.out _ HMO.out).mono ?_
    rintro e w8 ⟨rfl, hb8⟩
    obtain ⟨k0, k1, k2, k3, k4⟩ := box3_next hb8 HD5.out
    have HE2 := hid (Expr.eval_any t (l.set m vy) w8 _ (some ⟨RO, 0, none⟩) cN (TrIn_below hb8 (TrIn_below HMO.out HT6.out)) (HIN.out.below hb8) (by rw [HSET.out]; exact hcN) (by unfold maxLen; omega))
    have he2 := HE2.out
    rw [HOK2.out, HEV.out, HSET.out] at he2
    replace HE2 := hid he2
    have B8 := below_next (below_next B1 HMO.out) hb8
    clear he2 hb8
    go_wp2_with fail
    refine HE2.out.mono ?_
    rintro e w9 ⟨rfl, hb9⟩
    have hqq : (evalV r l == evalV r l) = true := by simp
    go_wp2_with fail
    go_ret
    exact Ret.mk (by simp) (below_next B8 hb9)
end Go.Proofs.Ytplogaapgolaiaa
