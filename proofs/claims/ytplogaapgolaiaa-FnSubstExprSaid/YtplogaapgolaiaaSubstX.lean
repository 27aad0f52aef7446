/- SubstExpr, of the program and of the reference: what it returns, for all expressions and numbers. Conditions: those of each contract. -/
import Derived.Test.YtplogaapgolaiaaSubstS
import Derived.Test.YtplogaapgolaiaaSubstI
import Derived.Test.YtplogaapgolaiaaExprSpecVB
import Derived.Test.YtplogaapgolaiaaExprImplN
namespace Go.Proofs.Ytplogaapgolaiaa
open Go.RowKit
namespace Expr

/-- a tree of one's own, and whether there is one -/
def RetT (B : Nat) (t : Tr) (b : Bool) (w : World) (e : Ending) (w' : World) : Prop := ∃ v, e = .returned (.tuple #[v, .bool b]) ∧ NewTr B t v w' ∧ Below w.heap.size w w'
theorem RetT.mk {B : Nat} {t t' : Tr} {b b' : Bool} {v : Value} {w w' : World} (h : NewTr B t' v w') (ht : t = t') (hb : b = b') (hw : Below w.heap.size w w') : RetT B t b w (.returned (.tuple #[v, .bool b'])) w' := ⟨v, by rw [hb], ht ▸ h, hw⟩
def zeroT : Tr := .mk 0 0 []
theorem zero_new (B : Nat) (w : World) : NewTr B zeroT (.agg #[.int .i64 0, .int .i64 0, .slice none 0 0]) w := leaf_new _ _ (by unfold i64; omega) (by unfold i64; omega)

def subOk (x : Int) (t y : Tr) : Bool := exprL.valid t && (exprL.valid y && (inB x 0 2 && exprL.valid (subT x y t)))
def subV (x : Int) (t y : Tr) : Tr := if subOk x t y = true then subT x y t else zeroT
theorem subV_small (x : Int) (t y : Tr) : nodes (subV x t y) ≤ 1000 := by
  unfold subV
  split
  · rename_i h
    simp only [subOk, Bool.and_eq_true] at h
    have := h.2.2.2
    rw [Lang.valid, Bool.and_eq_true, decide_eq_true_eq, exprL_N] at this
    omega
  · simp [zeroT, nodes, nodesL]

set_option maxHeartbeats 4000000 in
theorem subst_any (x : Int) (t y : Tr) (w : World) (u z : Value) (hx : TrIn Any w t u) (hy : TrIn Any w y z) (hs : Small t) (hsy : Small y) : Calls Try.prog 19 #[u, .int .i64 x, z] w (RetT w.heap.size (subV x t y) (subOk x t y) w) := by
  have hx0 := hx
  have hy0 := hy
  obtain ⟨a, c, rfl⟩ := TrIn_shape hx
  obtain ⟨a', c', rfl⟩ := TrIn_shape hy
  have HT := hid (fun w hx => valid_any t w (.agg #[.int .i64 t.kind, .int .i64 t.val, .slice a t.kids.length c]) hx)
  have HY := hid (fun w hx => valid_any y w (.agg #[.int .i64 y.kind, .int .i64 y.val, .slice a' y.kids.length c']) hx)
  have HI := hid (fun w => in_any x 0 2 w)
  have HN := hid (fun w hx hy => su_any x y hsy t w (.agg #[.int .i64 t.kind, .int .i64 t.val, .slice a t.kids.length c]) (.agg #[.int .i64 y.kind, .int .i64 y.val, .slice a' y.kids.length c']) hx hy hs)
  have HV := hid (fun w x' hx => valid_any (subT x y t) w x' hx)
  have EO := hid (show subOk x t y = (exprL.valid t && (exprL.valid y && (inB x 0 2 && exprL.valid (subT x y t)))) from rfl)
  have hsm := hid (fun (h : subOk x t y = false) => (⟨by simp [subV, h], h⟩ : subV x t y = zeroT ∧ subOk x t y = false))
  have hst := hid (fun (h : subOk x t y = true) => (⟨by simp [subV, h], h⟩ : subV x t y = subT x y t ∧ subOk x t y = true))
  generalize exprL.valid t = vt at *
  generalize exprL.valid y = vy at *
  generalize inB x 0 2 = vi at *
  generalize exprL.valid (subT x y t) = vo at *
  cases vt with
  | false =>
    have E := hid (hsm.out (by rw [EO.out]; rfl))
    go_enter Try.func19, Try.ntmps19
    go_wp2_with fail
    refine (HT.out _ (TrIn_below (by repeat (first | exact Below.refl _ _ | assumption | refine below_a ?_ _ | refine below_o ?_ _ | refine below_d ?_ | refine below_n ?_ _ | refine below_s ?_ (by first | (simp; done) | (simp; omega) | omega) _)) hx)).mono ?_
    rintro e w1 ⟨rfl, hb⟩
    have bP := box3_next hb (box3_at (B := w.heap.size + 1 + 1) (by simp))
    have bP' := bP
    obtain ⟨z0, z1, z2, z3, z4, z5, z6⟩ := bP
    have B1 := hid (below_next (show Below w.heap.size w _ from (by repeat (first | exact Below.refl _ _ | assumption | refine below_a ?_ _ | refine below_o ?_ _ | refine below_d ?_ | refine below_n ?_ _ | refine below_s ?_ (by first | (simp; done) | (simp; omega) | omega) _))) hb)
    clear hb
    go_wp2_with fail
    obtain ⟨y0, y1, y2, y3, _⟩ := box3_set2 (box3_set1 (box3_set0 bP' (.int .i64 0)) (.int .i64 0)) (.slice none 0 0); refine bodyPost_ret (v := .tuple #[.agg #[.int .i64 0, .int .i64 0, .slice none 0 0], .bool false]) (by simp [results, Try.results19, go_sem, y1, y2, y3]) rfl ?_
    exact RetT.mk (zero_new _ _) E.out.1 E.out.2 (below_set3 B1.out (by omega) _ _ _)
  | true =>
    cases vy with
    | false =>
      have E := hid (hsm.out (by rw [EO.out]; rfl))
      go_enter Try.func19, Try.ntmps19
      go_wp2_with fail
      refine (HT.out _ (TrIn_below (by repeat (first | exact Below.refl _ _ | assumption | refine below_a ?_ _ | refine below_o ?_ _ | refine below_d ?_ | refine below_n ?_ _ | refine below_s ?_ (by first | (simp; done) | (simp; omega) | omega) _)) hx)).mono ?_
      rintro e w1 ⟨rfl, hb⟩
      have bY := box3_next hb (box3_next (below_alloc _ _) (box3_at (B := w.heap.size + 1) (a := .int .i64 y.kind) (b := .int .i64 y.val) (c := .slice a' y.kids.length c') (t := 25) (by simp)))
      have bP := box3_next hb (box3_at (B := w.heap.size + 1 + 1) (by simp))
      have B1 := below_next (show Below w.heap.size w _ from (by repeat (first | exact Below.refl _ _ | assumption | refine below_a ?_ _ | refine below_o ?_ _ | refine below_d ?_ | refine below_n ?_ _ | refine below_s ?_ (by first | (simp; done) | (simp; omega) | omega) _))) hb
      clear hb
      go_wp2_with fail
      refine (HY.out _ (TrIn_below B1 hy)).mono ?_
      rintro e w2 ⟨rfl, hb⟩
      replace bP := box3_next hb bP
      replace B1 := hid (below_next B1 hb)
      have bP' := bP
      obtain ⟨z0, z1, z2, z3, z4, z5, z6⟩ := bP
      clear hb
      go_wp2_with fail
      obtain ⟨y0, y1, y2, y3, _⟩ := box3_set2 (box3_set1 (box3_set0 bP' (.int .i64 0)) (.int .i64 0)) (.slice none 0 0); refine bodyPost_ret (v := .tuple #[.agg #[.int .i64 0, .int .i64 0, .slice none 0 0], .bool false]) (by simp [results, Try.results19, go_sem, y1, y2, y3]) rfl ?_
      exact RetT.mk (zero_new _ _) E.out.1 E.out.2 (below_set3 B1.out (by omega) _ _ _)
    | true =>
      go_enter Try.func19, Try.ntmps19
      go_wp2_with fail
      refine (HT.out _ (TrIn_below (by repeat (first | exact Below.refl _ _ | assumption | refine below_a ?_ _ | refine below_o ?_ _ | refine below_d ?_ | refine below_n ?_ _ | refine below_s ?_ (by first | (simp; done) | (simp; omega) | omega) _)) hx)).mono ?_
      rintro e w1 ⟨rfl, hb⟩
      have bX := box3_next hb (box3_next (below_alloc _ _) (box3_next (below_alloc _ _) (box3_new w (.int .i64 t.kind) (.int .i64 t.val) (.slice a t.kids.length c) 25)))
      have bY := box3_next hb (box3_next (below_alloc _ _) (box3_at (B := w.heap.size + 1) (a := .int .i64 y.kind) (b := .int .i64 y.val) (c := .slice a' y.kids.length c') (t := 25) (by simp)))
      have bP := box3_next hb (box3_at (B := w.heap.size + 1 + 1) (by simp))
      have B1 := below_next (show Below w.heap.size w _ from (by repeat (first | exact Below.refl _ _ | assumption | refine below_a ?_ _ | refine below_o ?_ _ | refine below_d ?_ | refine below_n ?_ _ | refine below_s ?_ (by first | (simp; done) | (simp; omega) | omega) _))) hb
      clear hb
      go_wp2_with fail
      refine (HY.out _ (TrIn_below B1 hy)).mono ?_
      rintro e w2 ⟨rfl, hb⟩
      replace bP := box3_next hb bP
      replace bX := box3_next hb bX
      replace bY := box3_next hb bY
      replace B1 := below_next B1 hb
      clear hb
      go_wp2_with fail
      refine (HI.out _).mono ?_
      rintro e w3 ⟨rfl, rfl⟩
      cases vi with
      | false =>
        have E := hid (hsm.out (by rw [EO.out]; rfl))
        have bP' := bP
        obtain ⟨z0, z1, z2, z3, z4, z5, z6⟩ := bP
        replace B1 := hid B1
        go_wp2_with fail
        obtain ⟨y0, y1, y2, y3, _⟩ := box3_set2 (box3_set1 (box3_set0 bP' (.int .i64 0)) (.int .i64 0)) (.slice none 0 0); refine bodyPost_ret (v := .tuple #[.agg #[.int .i64 0, .int .i64 0, .slice none 0 0], .bool false]) (by simp [results, Try.results19, go_sem, y1, y2, y3]) rfl ?_
        exact RetT.mk (zero_new _ _) E.out.1 E.out.2 (below_set3 B1.out (by omega) _ _ _)
      | true =>
        go_wp2_with fail
        refine (HN.out _ (TrIn_below B1 hx) (TrIn_below B1 hy)).mono ?_
        rintro e w4 ⟨v1, rfl, hn, hb⟩
        have hP3 : w.heap.size + 1 + 1 < w3.heap.size := bP.1
        replace bP := box3_next hb bP
        replace B1 := below_next B1 hb
        obtain ⟨a5, c5, rfl⟩ := TrIn_shape hn.any
        clear hb
        go_wp2_with fail
        refine (HV.out _ _ (TrIn_below (by repeat (first | exact Below.refl _ _ | assumption | refine below_a ?_ _ | refine below_o ?_ _ | refine below_d ?_ | refine below_n ?_ _ | refine below_s ?_ (by first | (simp; done) | (simp; omega) | omega) _)) hn.any)).mono ?_
        rintro e w5 ⟨rfl, hb⟩
        have bO := box3_next hb (box3_new ..)
        replace hb := below_next (below_alloc ..) hb
        replace bP := box3_next hb bP
        replace B1 := hid (below_next B1 hb)
        have HNN := hid (hn.below hb)
        clear hb hn
        have bP' := bP
        obtain ⟨z0, z1, z2, z3, z4, z5, z6⟩ := bP
        cases vo with
        | false =>
          have E := hid (hsm.out (by rw [EO.out]; rfl))
          go_wp2_with fail
          obtain ⟨y0, y1, y2, y3, _⟩ := box3_set2 (box3_set1 (box3_set0 bP' (.int .i64 0)) (.int .i64 0)) (.slice none 0 0); refine bodyPost_ret (v := .tuple #[.agg #[.int .i64 0, .int .i64 0, .slice none 0 0], .bool false]) (by simp [results, Try.results19, go_sem, y1, y2, y3]) rfl ?_
          exact RetT.mk (zero_new _ _) E.out.1 E.out.2 (below_set3 B1.out (by omega) _ _ _)
        | true =>
          have E := hid (hst.out (by rw [EO.out]; rfl))
          go_wp2_with fail
          obtain ⟨y0, y1, y2, y3, _⟩ := box3_set2 (box3_set1 (box3_set0 bP' (.int .i64 (subT x y t).kind)) (.int .i64 (subT x y t).val)) (.slice a5 (subT x y t).kids.length c5); refine bodyPost_ret (v := .tuple #[.agg #[.int .i64 (subT x y t).kind, .int .i64 (subT x y t).val, .slice a5 (subT x y t).kids.length c5], .bool true]) (by simp [results, Try.results19, go_sem, y1, y2, y3]) rfl ?_
          exact RetT.mk ((newTr_set3 HNN.out hP3 _ _ _).mono (by omega)) E.out.1 E.out.2 (below_set3 B1.out (by omega) _ _ _)

end Expr
end Go.Proofs.Ytplogaapgolaiaa
