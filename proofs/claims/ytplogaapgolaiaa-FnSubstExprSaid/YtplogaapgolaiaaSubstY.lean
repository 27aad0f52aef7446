/- The reference's SubstExpr: what it returns, for all expressions and numbers. Conditions: those of each contract. -/
import Derived.Test.YtplogaapgolaiaaSubstX
namespace Go.Proofs.Ytplogaapgolaiaa
open Go.RowKit
namespace Expr

set_option maxHeartbeats 4000000 in
theorem specSubst_any (x : Int) (t y : Tr) (w : World) (u z : Value) (hx : TrIn Any w t u) (hy : TrIn Any w y z) (hs : Small t) (hsy : Small y) : Calls Try.prog 20 #[u, .int .i64 x, z] w (RetT w.heap.size (subV x t y) (subOk x t y) w) := by
  have hx0 := hx
  have hy0 := hy
  obtain ⟨a, c, rfl⟩ := TrIn_shape hx
  obtain ⟨a', c', rfl⟩ := TrIn_shape hy
  have HT := hid (fun w hx => specValid_any t w (.agg #[.int .i64 t.kind, .int .i64 t.val, .slice a t.kids.length c]) hx)
  have HY := hid (fun w hx => specValid_any y w (.agg #[.int .i64 y.kind, .int .i64 y.val, .slice a' y.kids.length c']) hx)
  have hnn := hid (fun (h : exprL.valid y = true) => noneg_valid h)
  have HV := hid (fun w x' hx => specValid_any (subT x y t) w x' hx)
  have EO := hid (show subOk x t y = (exprL.valid t && (exprL.valid y && (inB x 0 2 && exprL.valid (subT x y t)))) from rfl)
  have hsm := hid (fun (h : subOk x t y = false) => (⟨by simp [subV, h], h⟩ : subV x t y = zeroT ∧ subOk x t y = false))
  have hst := hid (fun (h : subOk x t y = true) => (⟨by simp [subV, h], h⟩ : subV x t y = subT x y t ∧ subOk x t y = true))
  generalize exprL.valid t = vt at *
  generalize hvy : exprL.valid y = vy at *
  replace hnn := hid (fun (h : vy = true) => hnn.out h)
  clear hvy
  generalize hvi0 : inB x 0 2 = vi at *
  have HVI := hid hvi0.symm
  clear hvi0
  generalize exprL.valid (subT x y t) = vo at *
  cases vt with
  | false =>
    have E := hid (hsm.out (by rw [EO.out]; rfl))
    go_enter Try.func20, Try.ntmps20
    go_wp2_with fail
    refine (HT.out _ (TrIn_below (by repeat (first | exact Below.refl _ _ | assumption | refine below_a ?_ _ | refine below_o ?_ _ | refine below_d ?_ | refine below_n ?_ _ | refine below_s ?_ (by first | (simp; done) | (simp; omega) | omega) _)) hx)).mono ?_
    rintro e w1 ⟨rfl, hb⟩
    have bP := box3_next hb (box3_at (B := w.heap.size + 1 + 1) (by simp))
    have bP' := bP
    obtain ⟨z0, z1, z2, z3, z4, z5, z6⟩ := bP
    have B1 := hid (below_next (show Below w.heap.size w _ from (by repeat (first | exact Below.refl _ _ | assumption | refine below_a ?_ _ | refine below_o ?_ _ | refine below_d ?_ | refine below_n ?_ _ | refine below_s ?_ (by first | (simp; done) | (simp; omega) | omega) _))) hb)
    clear hb
    go_wp2_with fail
    obtain ⟨y0, y1, y2, y3, _⟩ := box3_set2 (box3_set1 (box3_set0 bP' (.int .i64 0)) (.int .i64 0)) (.slice none 0 0); refine bodyPost_ret (v := .tuple #[.agg #[.int .i64 0, .int .i64 0, .slice none 0 0], .bool false]) (by simp [results, Try.results20, go_sem, y1, y2, y3]) rfl ?_
    exact RetT.mk (zero_new _ _) E.out.1 E.out.2 (below_set3 B1.out (by omega) _ _ _)
  | true =>
    cases vy with
    | false =>
      have E := hid (hsm.out (by rw [EO.out]; rfl))
      go_enter Try.func20, Try.ntmps20
      go_wp2_with fail
      refine (HT.out _ (TrIn_below (by repeat (first | exact Below.refl _ _ | assumption | refine below_a ?_ _ | refine below_o ?_ _ | refine below_d ?_ | refine below_n ?_ _ | refine below_s ?_ (by first | (simp; done) | (simp; omega) | omega) _)) hx)).mono ?_
      rintro e w1 ⟨rfl, hb⟩
      have bY := box3_next hb (box3_next (below_alloc _ _) (box3_at (B := w.heap.size + 1) (a := .int .i64 y.kind) (b := .int .i64 y.val) (c := .slice a' y.kids.length c') (t := 25) (by simp)))
      have bP := box3_next hb (box3_at (B := w.heap.size + 1 + 1) (by simp))
      have B1 := below_next (show Below w.heap.size w _ from (by repeat (first | exact Below.refl _ _ | assumption | refine below_a ?_ _ | refine below_o ?_ _ | refine below_d ?_ | refine below_n ?_ _ | refine below_s ?_ (by first | (simp; done) | (simp; omega) | omega) _))) hb
      clear hb
      go_wp2_with fail
      refine (HY.out _ (TrIn_below B1 hy)).mono ?_
      rintro e w2 ⟨rfl, hb⟩
      replace bP := box3_next hb bP
      replace B1 := hid (below_next B1 hb)
      have bP' := bP
      obtain ⟨z0, z1, z2, z3, z4, z5, z6⟩ := bP
      clear hb
      go_wp2_with fail
      obtain ⟨y0, y1, y2, y3, _⟩ := box3_set2 (box3_set1 (box3_set0 bP' (.int .i64 0)) (.int .i64 0)) (.slice none 0 0); refine bodyPost_ret (v := .tuple #[.agg #[.int .i64 0, .int .i64 0, .slice none 0 0], .bool false]) (by simp [results, Try.results20, go_sem, y1, y2, y3]) rfl ?_
      exact RetT.mk (zero_new _ _) E.out.1 E.out.2 (below_set3 B1.out (by omega) _ _ _)
    | true =>
      have hyn := hnn.out rfl
      have HN := hid (fun w hx hy => sb_any x y hyn hsy t w (.agg #[.int .i64 t.kind, .int .i64 t.val, .slice a t.kids.length c]) (.agg #[.int .i64 y.kind, .int .i64 y.val, .slice a' y.kids.length c']) hx hy hs)
      clear hyn
      go_enter Try.func20, Try.ntmps20
      go_wp2_with fail
      refine (HT.out _ (TrIn_below (by repeat (first | exact Below.refl _ _ | assumption | refine below_a ?_ _ | refine below_o ?_ _ | refine below_d ?_ | refine below_n ?_ _ | refine below_s ?_ (by first | (simp; done) | (simp; omega) | omega) _)) hx)).mono ?_
      rintro e w1 ⟨rfl, hb⟩
      have bX := box3_next hb (box3_next (below_alloc _ _) (box3_next (below_alloc _ _) (box3_new w (.int .i64 t.kind) (.int .i64 t.val) (.slice a t.kids.length c) 25)))
      have bY := box3_next hb (box3_next (below_alloc _ _) (box3_at (B := w.heap.size + 1) (a := .int .i64 y.kind) (b := .int .i64 y.val) (c := .slice a' y.kids.length c') (t := 25) (by simp)))
      have bP := box3_next hb (box3_at (B := w.heap.size + 1 + 1) (by simp))
      have B1 := below_next (show Below w.heap.size w _ from (by repeat (first | exact Below.refl _ _ | assumption | refine below_a ?_ _ | refine below_o ?_ _ | refine below_d ?_ | refine below_n ?_ _ | refine below_s ?_ (by first | (simp; done) | (simp; omega) | omega) _))) hb
      clear hb
      go_wp2_with fail
      refine (HY.out _ (TrIn_below B1 hy)).mono ?_
      rintro e w2 ⟨rfl, hb⟩
      replace bP := box3_next hb bP
      replace bX := box3_next hb bX
      replace bY := box3_next hb bY
      replace B1 := below_next B1 hb
      clear hb
      cases hvi : vi with
      | false =>
        subst hvi
        have E := hid (hsm.out (by rw [EO.out]; rfl))
        have bP' := bP
        obtain ⟨z0, z1, z2, z3, z4, z5, z6⟩ := bP
        replace B1 := hid B1
        have hx3 : x < 0 ∨ (¬ x < 0 ∧ x ≥ 3) := by have := HVI.out.symm; simp [inB] at this; omega
        rcases hx3 with hx3 | ⟨hx3, hx4⟩
        all_goals
          go_wp2_with fail
          obtain ⟨y0, y1, y2, y3, _⟩ := box3_set2 (box3_set1 (box3_set0 bP' (.int .i64 0)) (.int .i64 0)) (.slice none 0 0); refine bodyPost_ret (v := .tuple #[.agg #[.int .i64 0, .int .i64 0, .slice none 0 0], .bool false]) (by simp [results, Try.results20, go_sem, y1, y2, y3]) rfl ?_
          exact RetT.mk (zero_new _ _) E.out.1 E.out.2 (below_set3 B1.out (by omega) _ _ _)
      | true =>
        subst hvi
        have hx5 : ¬ x < 0 ∧ ¬ x ≥ 3 := by have := HVI.out.symm; simp [inB] at this; omega
        obtain ⟨hx3, hx4⟩ := hx5
        go_wp2_with fail
        refine (HN.out _ (TrIn_below B1 hx) (TrIn_below B1 hy)).mono ?_
        rintro e w4 ⟨v1, rfl, hn0, hb⟩
        have hn := hn0.new
        clear hn0
        have hP3 : w.heap.size + 1 + 1 < w2.heap.size := bP.1
        replace bP := box3_next hb bP
        replace B1 := below_next B1 hb
        obtain ⟨a5, c5, rfl⟩ := TrIn_shape hn.any
        clear hb
        go_wp2_with fail
        refine (HV.out _ _ (TrIn_below (by repeat (first | exact Below.refl _ _ | assumption | refine below_a ?_ _ | refine below_o ?_ _ | refine below_d ?_ | refine below_n ?_ _ | refine below_s ?_ (by first | (simp; done) | (simp; omega) | omega) _)) hn.any)).mono ?_
        rintro e w5 ⟨rfl, hb⟩
        have bO := box3_next hb (box3_new ..)
        replace hb := below_next (below_alloc ..) hb
        replace bP := box3_next hb bP
        replace B1 := hid (below_next B1 hb)
        have HNN := hid (hn.below hb)
        clear hb hn
        have bP' := bP
        obtain ⟨z0, z1, z2, z3, z4, z5, z6⟩ := bP
        cases vo with
        | false =>
          have E := hid (hsm.out (by rw [EO.out]; rfl))
          go_wp2_with fail
          obtain ⟨y0, y1, y2, y3, _⟩ := box3_set2 (box3_set1 (box3_set0 bP' (.int .i64 0)) (.int .i64 0)) (.slice none 0 0); refine bodyPost_ret (v := .tuple #[.agg #[.int .i64 0, .int .i64 0, .slice none 0 0], .bool false]) (by simp [results, Try.results20, go_sem, y1, y2, y3]) rfl ?_
          exact RetT.mk (zero_new _ _) E.out.1 E.out.2 (below_set3 B1.out (by omega) _ _ _)
        | true =>
          have E := hid (hst.out (by rw [EO.out]; rfl))
          go_wp2_with fail
          obtain ⟨y0, y1, y2, y3, _⟩ := box3_set2 (box3_set1 (box3_set0 bP' (.int .i64 (subT x y t).kind)) (.int .i64 (subT x y t).val)) (.slice a5 (subT x y t).kids.length c5); refine bodyPost_ret (v := .tuple #[.agg #[.int .i64 (subT x y t).kind, .int .i64 (subT x y t).val, .slice a5 (subT x y t).kids.length c5], .bool true]) (by simp [results, Try.results20, go_sem, y1, y2, y3]) rfl ?_
          exact RetT.mk ((newTr_set3 HNN.out hP3 _ _ _).mono (by omega)) E.out.1 E.out.2 (below_set3 B1.out (by omega) _ _ _)

end Expr
end Go.Proofs.Ytplogaapgolaiaa
