/- FnExactSatisfies returns true for every lasso and every formula. Conditions: none. -/
import Derived.Test.YtbeljjalfhogdaaSatX
import Derived.Test.YtbeljjalfhogdaaFormulaA
import Derived.Deep.RegionHeld3
namespace Go.Proofs.Ytbeljjalfhogdaa
open Go.RowKit

theorem NewPair_nil {B : Nat} {l m : List Int} {v : Value} {w : World} (h : Lasso.NewPair B l m v w) : Lasso.NilOk v := by
  obtain ⟨R1, R2, rfl, _⟩ := h
  intro a n c b m d e
  simp at e
  obtain ⟨⟨rfl, _, _⟩, rfl, _, _⟩ := e
  exact ⟨by simp, by simp⟩

set_option maxRecDepth 100000 in
set_option maxHeartbeats 4000000 in
theorem walk_FnExactSatisfies (s l : List Int) (t : Tr) (w : World) (x y : Value) (hx : Lasso.PairIn Any w s l x) (hy : TrIn Any w t y) : Calls Try.prog 5 #[x, y] w (Ret (.bool true) w) := by
  have HX := hid hx
  have HY := hid hy
  obtain ⟨a, b, c, d, rfl, h1, h2, _⟩ := hx
  obtain ⟨ak, ck, rfl⟩ := TrIn_shape hy
  have hI := hid (And.intro h1.2 h2.2)
  have hbd := Lasso.szP_bd (l := s) (m := l) (left := 1048576) (by omega)
  have hbd2 := szT_bd t (Lasso.szP s l 1048576) hbd.1 hbd.2
  have HSZ := hid (fun (w' : World) (M : Below w.heap.size w w') => Lasso.sz_any s l w' _ 1048576 (HX.out.below M) (by omega) (by omega))
  have HSF := hid (fun (w' : World) (M : Below w.heap.size w w') => Formula.sz_any t w' _ (Lasso.szP s l 1048576) (TrIn_below M HY.out) hbd.2 hbd.1)
  have HS1 := hid (fun (h : 0 ≤ Lasso.szP s l 1048576) => Lasso.szP_len (by omega) h)
  have HS2 := hid (fun (h : 0 ≤ szT t (Lasso.szP s l 1048576)) => small_of_sz t _ hbd.2 h)
  generalize Lasso.szP s l 1048576 = g at *
  generalize szT t g = g2 at *
  clear hy h1 h2
  by_cases k1 : g < 0
  · go_enter Try.func5, Try.ntmps5
    go_wp2_with fail
    refine (HSZ.out _ (by repeat (first | exact Below.refl _ _ | assumption | refine below_a ?_ _ | refine below_o ?_ _ | refine below_d ?_ | refine below_n ?_ _ | refine below_s ?_ (by first | (simp; done) | (simp; omega) | omega) _))).mono ?_
    rintro e w1 ⟨rfl, hb⟩
    go_wp2_with fail
    go_ret
    exact Ret.mk rfl (below_next (by repeat (first | exact Below.refl _ _ | assumption | refine below_a ?_ _ | refine below_o ?_ _ | refine below_d ?_ | refine below_n ?_ _ | refine below_s ?_ (by first | (simp; done) | (simp; omega) | omega) _)) hb)
  by_cases k2 : g2 < 0
  · go_enter Try.func5, Try.ntmps5
    go_wp2_with fail
    refine (HSZ.out _ (by repeat (first | exact Below.refl _ _ | assumption | refine below_a ?_ _ | refine below_o ?_ _ | refine below_d ?_ | refine below_n ?_ _ | refine below_s ?_ (by first | (simp; done) | (simp; omega) | omega) _))).mono ?_
    rintro e w1 ⟨rfl, hb⟩
    have b3 := box3_next hb (box3_at (w := w.alloc _) (B := w.heap.size + 1) (a := .int .i64 t.kind) (b := .int .i64 t.val) (c := .slice ak t.kids.length ck) (t := 40) (by simp))
    have B1 := hid (below_next (show Below w.heap.size w _ from below_next (below_alloc _ _) (below_alloc _ _)) hb)
    obtain ⟨q0, q1, q2, q3, _⟩ := b3
    clear hb
    go_wp2_with fail
    refine (HSF.out _ B1.out).mono ?_
    rintro e w2 ⟨rfl, hb⟩
    go_wp2_with fail
    go_ret
    exact Ret.mk rfl (below_next B1.out hb)
  have hl := hid (HS1.out (by omega))
  have hsm := hid (HS2.out (by omega))
  clear HS1 HS2
  go_enter Try.func5, Try.ntmps5
  go_wp2_with fail
  refine (HSZ.out _ (by repeat (first | exact Below.refl _ _ | assumption | refine below_a ?_ _ | refine below_o ?_ _ | refine below_d ?_ | refine below_n ?_ _ | refine below_s ?_ (by first | (simp; done) | (simp; omega) | omega) _))).mono ?_
  rintro e w1 ⟨rfl, hb⟩
  have P := hid (Lasso.pbox_next hb (Lasso.pbox_next (below_alloc _ _) (Lasso.pbox_at (w := w) (a := .slice a s.length c) (b := .slice b l.length d) (t := 37) rfl)))
  have Q := hid (box3_next hb (box3_at (w := w.alloc _) (B := w.heap.size + 1) (a := .int .i64 t.kind) (b := .int .i64 t.val) (c := .slice ak t.kids.length ck) (t := 40) (by simp)))
  have B := hid (below_next (show Below w.heap.size w _ from below_next (below_alloc _ _) (below_alloc _ _)) hb)
  clear hb
  obtain ⟨q0, q1, q2, q3, _⟩ := id Q.out
  go_wp2_with fail
  refine (HSF.out _ B.out).mono ?_
  rintro e w2 ⟨rfl, hb⟩
  replace P := hid (Lasso.pbox_next hb P.out)
  replace Q := hid (box3_next hb Q.out)
  replace B := hid (below_next B.out hb)
  clear hb q0 q1 q2 q3
  obtain ⟨p0, p1, p2, _⟩ := id P.out
  go_upto_region 8 with fail
  go_cut [6, 7] (fun s6 s7 wx => s6 = .bool (Lasso.satV s l t) ∧ s7 = .bool (Lasso.satOk s l t) ∧ Hid (Below w.heap.size w wx ∧ Lasso.PBox wx w.heap.size (.slice a s.length c) (.slice b l.length d) ∧ Box3 wx (w.heap.size + 1) (.int .i64 t.kind) (.int .i64 t.val) (.slice ak t.kids.length ck)))
  case first =>
    have h1 := Lasso.pbox_next (below_d (Below.refl _ _)) P.out
    have h2 := box3_next (below_d (Below.refl _ _)) Q.out
    have Bd := below_d B.out
    clear p0 p1 p2
    go_region_held3 (fun w' => w'.cell? ⟨w.heap.size, 0, none⟩ = some (.slice a s.length c) ∧ w'.cell? ⟨w.heap.size, 1, none⟩ = some (.slice b l.length d) ∧ w'.cell? ⟨w.heap.size + 1, 0, none⟩ = some (.int .i64 t.kind) ∧ w'.cell? ⟨w.heap.size + 1, 1, none⟩ = some (.int .i64 t.val) ∧ w'.cell? ⟨w.heap.size + 1, 2, none⟩ = some (.slice ak t.kids.length ck))
      (first | exact ⟨h1.2.1, h1.2.2.1, h2.2.1, h2.2.2.1, h2.2.2.2.1⟩ | exact ⟨k1.2.1, k1.2.2.1, k2.2.1, k2.2.2.1, k2.2.2.2.1⟩ | exact ⟨l1.2.1, l1.2.2.1, l2.2.1, l2.2.2.1, l2.2.2.2.1⟩ | exact ⟨m1.2.1, m1.2.2.1, m2.2.1, m2.2.2.1, m2.2.2.2.1⟩)
      (first
        | (go_at_call 17; have HT := Lasso.to_any s l _ _ (HX.out.below Bd) hl.out.1 hl.out.2; refine HT.mono ?_; clear HT; rintro e w3 ⟨v1, rfl, hn1, hb⟩; have N1 := hid (hn1.any hI.out.1 hI.out.2 (Nat.le_trans hl.out.1 (by unfold maxLen; omega)) (Nat.le_trans hl.out.2 (by unfold maxLen; omega))); obtain ⟨r1, r2, rfl, _⟩ := hn1; have k1 := Lasso.pbox_next hb h1; have k2 := box3_next hb h2; have B3 := below_next Bd hb; clear hb)
        | (go_at_call 18; have HT := Formula.to_any t _ _ (TrIn_below B3 HY.out) hsm.out; refine HT.mono ?_; clear HT; rintro e w4 ⟨v2, rfl, hn2, hb⟩; have N2 := hid hn2.any; obtain ⟨a2, c2, rfl⟩ := TrIn_shape N2.out; have N3 := hid (N1.out.below hb); have l1 := Lasso.pbox_next hb k1; have l2 := box3_next hb k2; have B4 := below_next B3 hb; clear hb hn2)
        | (go_at_call 14; have HT := Lasso.specSat_any s l t _ _ _ N3.out N2.out; refine HT.mono ?_; clear HT; rintro e w5 ⟨rfl, hb⟩; have m1 := Lasso.pbox_next hb l1; have m2 := box3_next hb l2; have B5 := below_next B4 hb; clear hb))
    all_goals
      have HM := hid (show Below w.heap.size w w5 ∧ Lasso.PBox w5 w.heap.size (.slice a s.length c) (.slice b l.length d) ∧ Box3 w5 (w.heap.size + 1) (.int .i64 t.kind) (.int .i64 t.val) (.slice ak t.kids.length ck) from ⟨B5, m1, m2⟩)
      clear h1 h2 k1 k2 l1 l2 m1 m2 Bd B3 B4 B5 N1 N2 N3
      go_wp2_with fail
      go_meet
      exact ⟨rfl, rfl, HM⟩
  case rest =>
    obtain ⟨rfl, rfl, HM⟩ := hcut
    clear P Q B p0 p1 p2 HSZ HSF
    have B := hid HM.out.1
    have P := hid HM.out.2.1
    have Q := hid HM.out.2.2
    clear HM
    obtain ⟨p0, p1, p2, _⟩ := id P.out
    go_wp2_with fail
    refine (Lasso.to_any s l _ _ (HX.out.below B.out) hl.out.1 hl.out.2).mono ?_
    rintro e w6 ⟨v1, rfl, hn1, hb⟩
    have NO := hid (NewPair_nil hn1)
    have N1 := hid (hn1.any hI.out.1 hI.out.2 (by have := hl.out.1; unfold maxLen; omega) (by have := hl.out.2; unfold maxLen; omega))
    obtain ⟨r3, r4, rfl, _⟩ := hn1
    replace P := hid (Lasso.pbox_next hb P.out)
    replace Q := hid (box3_next hb Q.out)
    replace B := hid (below_next B.out hb)
    clear hb p0 p1 p2
    obtain ⟨q0, q1, q2, q3, _⟩ := id Q.out
    go_wp2_with fail
    refine (Formula.to_any t _ _ (TrIn_below (by exact below_next B.out (below_alloc _ _)) HY.out) hsm.out).mono ?_
    rintro e w7 ⟨v2, rfl, hn2, hb⟩
    have X0 := hid (Lasso.pbox_next hb (Lasso.pbox_at (w := w6) (B := w6.heap.size) (a := .slice (some ⟨r3, 0, none⟩) s.length s.length) (b := .slice (some ⟨r4, 0, none⟩) l.length l.length) (t := 25) rfl))
    replace hb := below_next (below_alloc _ _) hb
    have N2 := hid hn2.any
    obtain ⟨a2, c2, rfl⟩ := TrIn_shape N2.out
    replace N1 := hid (N1.out.below hb)
    replace P := hid (Lasso.pbox_next hb P.out)
    replace Q := hid (box3_next hb Q.out)
    replace B := hid (below_next B.out hb)
    clear hb hn2 q0 q1 q2 q3
    obtain ⟨x0, x1, x2, _⟩ := id X0.out
    go_wp2_with fail
    refine (Lasso.sat_any s l t _ _ _ (N1.out.below (below_alloc _ _)) (TrIn_below (below_alloc _ _) N2.out) NO.out).mono ?_
    rintro e w8 ⟨rfl, hb⟩
    have X1 := hid (box3_next hb (box3_at (w := w7) (B := w7.heap.size) (a := .int .i64 t.kind) (b := .int .i64 t.val) (c := .slice a2 t.kids.length c2) (t := 29) rfl))
    replace hb := below_next (below_alloc _ _) hb
    replace X0 := hid (Lasso.pbox_next hb X0.out)
    replace N1 := hid (N1.out.below hb)
    replace N2 := hid (TrIn_below hb N2.out)
    replace P := hid (Lasso.pbox_next hb P.out)
    replace Q := hid (box3_next hb Q.out)
    replace B := hid (below_next B.out hb)
    clear hb x0 x1 x2
    have c1 : (Lasso.satV s l t != Lasso.satV s l t) = false := by simp
    have c2' : (Lasso.satOk s l t != Lasso.satOk s l t) = false := by simp
    generalize Lasso.satV s l t = sv at *
    generalize Lasso.satOk s l t = so at *
    go_wp2_with fail
    have h1 := Lasso.pbox_next (below_d (Below.refl _ _)) P.out
    have h2 := Lasso.pbox_next (below_d (Below.refl _ _)) X0.out
    have Bd := below_d B.out
    have hm := N1.out.below (below_d (Below.refl _ _))
    go_region_held3 (fun w' => w'.cell? ⟨w.heap.size, 0, none⟩ = some (.slice a s.length c) ∧ w'.cell? ⟨w.heap.size, 1, none⟩ = some (.slice b l.length d) ∧ w'.cell? ⟨w6.heap.size, 0, none⟩ = some (.slice (some ⟨r3, 0, none⟩) s.length s.length) ∧ w'.cell? ⟨w6.heap.size, 1, none⟩ = some (.slice (some ⟨r4, 0, none⟩) l.length l.length))
      (first | exact ⟨h1.2.1, h1.2.2.1, h2.2.1, h2.2.2.1⟩ | exact ⟨k1.2.1, k1.2.2.1, k2.2.1, k2.2.2.1⟩ | exact ⟨l1.2.1, l1.2.2.1, l2.2.1, l2.2.2.1⟩)
      (first
        | (go_at_call 17; have HT := Lasso.to_any s l _ _ (HX.out.below Bd) hl.out.1 hl.out.2; refine HT.mono ?_; clear HT; rintro e w9 ⟨v1, rfl, hn1, hb⟩; have N3 := hid (hn1.any hI.out.1 hI.out.2 (Nat.le_trans hl.out.1 (by unfold maxLen; omega)) (Nat.le_trans hl.out.2 (by unfold maxLen; omega))); obtain ⟨r5, r6, rfl, _⟩ := hn1; have k1 := Lasso.pbox_next hb h1; have k2 := Lasso.pbox_next hb h2; have hm3 := hm.below hb; have B9 := below_next Bd hb; have Z9 := hb; clear hb)
        | (go_at_call 19; have HT := Lasso.eq_any s l s l _ _ _ hm3 N3.out; refine HT.mono ?_; clear HT; rintro e w10 ⟨rfl, hb⟩; have l1 := Lasso.pbox_next hb k1; have l2 := Lasso.pbox_next hb k2; have B10 := hid (below_next B9 hb); have Z10 := hid (below_next (below_d (Below.refl w8.heap.size w8)) (below_next Z9 hb)); clear hb Z9))
    replace Q := hid (box3_next Z10.out Q.out)
    replace X1 := hid (box3_next Z10.out X1.out)
    replace N2 := hid (TrIn_below Z10.out N2.out)
    have hx1 := X1.out
    have hq1 := Q.out
    have hn2 := N2.out
    have hBB := B10.out
    have hYY := HY.out
    have hss := hsm.out
    clear h1 h2 k1 k2 l1 l2 Bd B9 Z10 hm hm3 N1 N3 P X0 B
    go_wp2_with fail
    have Bd := below_d hBB; have hnd := TrIn_below (below_d (Below.refl w10.heap.size w10)) hn2; have h5 : Box3 w10.drew (w.heap.size + 1) (.int .i64 t.kind) (.int .i64 t.val) (.slice ak t.kids.length ck) := hq1; have h6 : Box3 w10.drew (w7.heap.size) (.int .i64 t.kind) (.int .i64 t.val) (.slice a2 t.kids.length c2) := hx1; go_region_held3 (fun w' => w'.cell? ⟨w7.heap.size, 0, none⟩ = some (.int .i64 t.kind) ∧ w'.cell? ⟨w7.heap.size, 1, none⟩ = some (.int .i64 t.val) ∧ w'.cell? ⟨w7.heap.size, 2, none⟩ = some (.slice a2 t.kids.length c2) ∧ w'.cell? ⟨w.heap.size + 1, 0, none⟩ = some (.int .i64 t.kind) ∧ w'.cell? ⟨w.heap.size + 1, 1, none⟩ = some (.int .i64 t.val) ∧ w'.cell? ⟨w.heap.size + 1, 2, none⟩ = some (.slice ak t.kids.length ck)) (first | exact ⟨h6.2.1, h6.2.2.1, h6.2.2.2.1, h5.2.1, h5.2.2.1, h5.2.2.2.1⟩ | exact ⟨k6.2.1, k6.2.2.1, k6.2.2.2.1, k5.2.1, k5.2.2.1, k5.2.2.2.1⟩ | exact ⟨l6.2.1, l6.2.2.1, l6.2.2.2.1, l5.2.1, l5.2.2.1, l5.2.2.2.1⟩) (first | (go_at_call 18; refine (Formula.to_any t _ _ (TrIn_below Bd hYY) hss).mono ?_; rintro e w81 ⟨v83, rfl, hn83, hb⟩; obtain ⟨a83, c83, rfl⟩ := TrIn_shape hn83.any; have k5 := box3_next hb h5; have k6 := box3_next hb h6; have hm := TrIn_below hb hnd; have M6 := hb; clear hb) | (go_at_call 20; refine (Formula.eq_any t _ t _ _ hm hn83.any).mono ?_; rintro e w82 ⟨rfl, hb⟩; rw [eqT_refl]; have l5 := box3_next hb k5; have l6 := box3_next hb k6; have M7 := below_next M6 hb; clear hb)); clear h5 h6 k5 k6 hm hn83 hnd; have B7 := below_next Bd M7; have M8 := below_next (below_d (Below.refl w10.heap.size w10)) M7; clear Bd M7
    go_wp2_with fail
    go_ret
    exact Ret.mk rfl B7
end Go.Proofs.Ytbeljjalfhogdaa
