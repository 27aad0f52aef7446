/- The reference's DrawExprSame: two small trees. Conditions: those of each contract. -/
import Derived.Test.YtplogaapgolaiaaDoorExprDraws
import Derived.Test.YtplogaapgolaiaaDoorBox
import Derived.Test.YtplogaapgolaiaaDoorOwnPlain
import Derived.Deep.RegionHeld3
namespace Go.Proofs.YtplogaapgolaiaaDoor
open Go.RowKit
namespace Expr

theorem only_a {S : List Nat} {w W : World} (h : Only S w W) (o : Obj) : Only S w (W.alloc o) := h.trans (Only.below (below_alloc _ _))
theorem only_d {S : List Nat} {w W : World} (h : Only S w W) : Only S w W.drew := ⟨h.os, h.tape, h.output, h.size, h.block⟩
theorem only_s {S : List Nat} {w W : World} (h : Only S w W) {a : Addr} (ha : a.block ∈ S) (u : Value) : Only S w (W.setCell a u) := h.set ha u
theorem only_but {S : List Nat} {w W : World} {D : Nat} (h : But w D W) (hD : D ∈ S) : Only S w W := ⟨h.os, h.tape, h.output, h.size, fun b hb hn => h.block b hb (fun e => hn (e ▸ hD))⟩
def SaDrawn (w : World) (e : Ending) (w' : World) : Prop := ∃ (x y : Value) (t u : Tr), e = .returned (.tuple #[x, y]) ∧ NewTr w.heap.size t x w' ∧ nodes t ≤ 33 ∧ NewTr w.heap.size u y w' ∧ nodes u ≤ 33 ∧ Below w.heap.size w w'

set_option maxRecDepth 100000 in
set_option maxHeartbeats 4000000 in
theorem drawSame_any (w : World) (a : Option Addr) (len cap : Nat) (hb : ByteArg w a len cap) : Calls Tryd.prog 5 #[.slice a len cap] w (SaDrawn w) := by
  go_enter Tryd.func5, Tryd.ntmps5
  go_wp2_with fail
  refine (open_any _ a len cap (hb.next (by repeat (first | exact Below.refl _ _ | assumption | refine below_a ?_ _ | refine below_o ?_ _ | refine below_d ?_ | refine below_n ?_ _ | refine below_s ?_ (by first | (simp; done) | (simp; omega) | omega) _)))).mono ?_
  rintro e w1 ⟨v, rfl, ⟨R, B, rfl, hR, hr⟩, hb1⟩
  have c2 := box3_next hb1 (box3_next (below_alloc _ _) (box3_new w (.int .i64 0) (.int .i64 0) (.slice none 0 0) 25))
  have c4 := box3_next hb1 (box3_at (B := w.heap.size + 1) (a := .int .i64 0) (b := .int .i64 0) (c := .slice none 0 0) (t := 25) (by simp))
  have B1 := below_next (show Below w.heap.size w _ from (by repeat (first | exact Below.refl _ _ | assumption | refine below_a ?_ _ | refine below_o ?_ _ | refine below_d ?_ | refine below_n ?_ _ | refine below_s ?_ (by first | (simp; done) | (simp; omega) | omega) _))) hb1
  simp at hR
  have hl1 := c4.1
  clear hb1
  go_wp2_with fail
  refine (form_any w1 R B 0 hr (by omega)).mono ?_
  rintro e w2 ⟨v, t, p2, rfl, hn, hnt, _, hb2, hr2, hp2⟩
  obtain ⟨a1, n1, rfl⟩ := TrIn_shape hn.any
  replace c2 := box3_but hb2 (by omega) c2
  replace c4 := box3_but hb2 (by omega) c4
  replace B1 := hb2.new B1 (by omega)
  have hl2 := hb2.size
  have hR2 := hr.lt
  clear hb2 hr
  go_wp2_with fail
  refine (pick_any B _ _ R p2 (hr2.next (below_alloc _ _)) (by omega) (by omega) (by omega)).mono ?_
  rintro e w4 ⟨i, rfl, _, hb4, hr4⟩
  have bF := box3_but hb4 (by omega) (box3_new w2 (.int .i64 t.kind) (.int .i64 t.val) (.slice a1 t.kids.length n1) 25)
  have hnF := ((hn.below (below_alloc _ _)).keep (Keep.but hb4 (by omega)))
  have hnW := hnF.any
  replace c2 := box3_but hb4 (by omega) (box3_next (below_alloc _ _) c2)
  replace c4 := box3_but hb4 (by omega) (box3_next (below_alloc _ _) c4)
  replace B1 := hb4.new (below_a B1 _) (by omega)
  clear hb4 hr2 hn
  have hF1 := bF.1
  have hB4 := hr4.lt
  have hne : R ≠ w2.heap.size ∧ w.heap.size ≠ w2.heap.size ∧ w.heap.size + 1 ≠ w2.heap.size ∧ w.heap.size ≠ R ∧ w.heap.size + 1 ≠ R := by omega
  have HF := hid (fun w' (M : Only [R, w.heap.size, w.heap.size + 1] w4 w') => (⟨((World.cell?_of_block (w := w4) (a := ⟨w2.heap.size, 0, none⟩) (M.block _ hF1 (by simp; omega)))).trans bF.2.1, ((World.cell?_of_block (w := w4) (a := ⟨w2.heap.size, 1, none⟩) (M.block _ hF1 (by simp; omega)))).trans bF.2.2.1, ((World.cell?_of_block (w := w4) (a := ⟨w2.heap.size, 2, none⟩) (M.block _ hF1 (by simp; omega)))).trans bF.2.2.2.1⟩ :
    w'.cell? ⟨w2.heap.size, 0, none⟩ = some (.int .i64 t.kind) ∧ w'.cell? ⟨w2.heap.size, 1, none⟩ = some (.int .i64 t.val) ∧ w'.cell? ⟨w2.heap.size, 2, none⟩ = some (.slice a1 t.kids.length n1)))
  by_cases hi : i = 0
  · subst hi
    go_wp2_with fail
    go_region_held3 (fun w' => w'.cell? ⟨w2.heap.size, 0, none⟩ = some (.int .i64 t.kind) ∧ w'.cell? ⟨w2.heap.size, 1, none⟩ = some (.int .i64 t.val) ∧ w'.cell? ⟨w2.heap.size, 2, none⟩ = some (.slice a1 t.kids.length n1))
      (first | (refine HF.out _ ?_; (repeat (first | with_reducible assumption | with_reducible exact Only.refl _ _ | with_reducible refine only_a ?_ _ | with_reducible refine only_d ?_ | with_reducible refine only_s ?_ (by simp) _)); done) | go_keep)
      ((go_at_call 17; have HX := form_any w4.drew R B (p2 + 1) (hr4.next (below_d (Below.refl _ _))) (by omega); refine HX.mono ?_; clear HX; rintro e w7 ⟨v7, u, p7, rfl, hn7, hnt7, _, hb7, hr7, hp7⟩; obtain ⟨a7, n7, rfl⟩ := TrIn_shape hn7.any; have B47 : But w4 R w7 := (But.of (D := R) (below_d (Below.refl w4.heap.size w4))).trans hb7; have M7 : Only [R, w.heap.size, w.heap.size + 1] w4 w7 := only_but B47 (by simp); have z2 := box3_but B47 (by omega) c2; have z4 := box3_but B47 (by omega) c4; obtain ⟨x0, x1, x2, x3, x4, x5, x6⟩ := z2; obtain ⟨y0, y1, y2, y3, y4, y5, y6⟩ := z4))
    all_goals
      have HN7 := hid (hn7.mono (B' := w2.heap.size) (by simp; omega))
      have HNF := hid (hnF.keep (Keep.but B47 (by omega)))
      have HZ := hid (And.intro (box3_but B47 (by omega) c2) (box3_but B47 (by omega) c4))
      have HBB := hid (B47.new B1 (by omega))
      clear hb7 hr7 hn7 B47 M7 bF hnF c2 c4 B1
      go_wp2_with fail
      have ne1 : w.heap.size ≠ w.heap.size + 1 := by omega
      have ne2 : w.heap.size + 1 ≠ w.heap.size := by omega
      have z2 := box3_set2 (box3_set1 (box3_set0 HZ.out.1 (.int .i64 t.kind)) (.int .i64 t.val)) (.slice a1 t.kids.length n1)
      have z4 := box3_set2 (box3_set1 (box3_set0 (box3_but (But.set _ w.heap.size 2 (.slice a1 t.kids.length n1)) ne2 (box3_but (But.set _ w.heap.size 1 (.int .i64 t.val)) ne2 (box3_but (But.set _ w.heap.size 0 (.int .i64 t.kind)) ne2 HZ.out.2))) (.int .i64 u.kind)) (.int .i64 u.val)) (.slice a7 u.kids.length n7)
      have z2' := box3_but (But.set _ (w.heap.size + 1) 2 (.slice a7 u.kids.length n7)) ne1 (box3_but (But.set _ (w.heap.size + 1) 1 (.int .i64 u.val)) ne1 (box3_but (But.set _ (w.heap.size + 1) 0 (.int .i64 u.kind)) ne1 z2))
      obtain ⟨i0, i1, i2, i3, _⟩ := z2'
      obtain ⟨j0, j1, j2, j3, _⟩ := z4
      refine bodyPost_ret (v := .tuple #[.agg #[.int .i64 t.kind, .int .i64 t.val, .slice a1 t.kids.length n1], .agg #[.int .i64 u.kind, .int .i64 u.val, .slice a7 u.kids.length n7]]) (by simp [results, Tryd.results5, go_sem, i1, i2, i3, j1, j2, j3]) rfl ?_
      exact ⟨_, _, t, u, rfl, (newTr_set3 (newTr_set3 HNF.out (by omega) _ _ _) (by omega) _ _ _).mono (by omega), by omega, (newTr_set3 (newTr_set3 HN7.out (by omega) _ _ _) (by omega) _ _ _).mono (by omega), by omega, below_set3 (below_set3 HBB.out (by omega) _ _ _) (by omega) _ _ _⟩
  · have e0 : (i == 0) = false := by simpa using hi
    go_wp2_with fail
    go_region_held3 (fun w' => w'.cell? ⟨w2.heap.size, 0, none⟩ = some (.int .i64 t.kind) ∧ w'.cell? ⟨w2.heap.size, 1, none⟩ = some (.int .i64 t.val) ∧ w'.cell? ⟨w2.heap.size, 2, none⟩ = some (.slice a1 t.kids.length n1))
      (first | (refine HF.out _ ?_; (repeat (first | with_reducible assumption | with_reducible exact Only.refl _ _ | with_reducible refine only_a ?_ _ | with_reducible refine only_d ?_ | with_reducible refine only_s ?_ (by simp) _)); done) | go_keep)
      (first
        | (go_at_call 19; have HX := mut_any w6 R B p6 t6 _ hn6.any (by omega) hr6 (by omega); refine HX.mono ?_; clear HX; rintro e w7 ⟨v7, u, p7, rfl, hn7, hnt7, hb7, hr7, hp7⟩; obtain ⟨a7, n7, rfl⟩ := TrIn_shape hn7.any; have B47 := hb6.trans hb7; have M7 : Only [R, w.heap.size, w.heap.size + 1] w4 w7 := only_but B47 (by simp); have z2 := box3_but B47 (by omega) c2; have z4 := box3_but B47 (by omega) c4; obtain ⟨x0, x1, x2, x3, x4, x5, x6⟩ := z2; obtain ⟨y0, y1, y2, y3, y4, y5, y6⟩ := z4)
        | (go_at_call 19; have HX := mut_any w4.drew R B (p2 + 1) t _ (TrIn_below (below_d (Below.refl _ _)) hnW) (by omega) (hr4.next (below_d (Below.refl _ _))) (by omega); refine HX.mono ?_; clear HX; rintro e w6 ⟨v6, t6, p6, rfl, hn6, hnt6, hb6, hr6, hp6⟩; obtain ⟨a6, n6, rfl⟩ := TrIn_shape hn6.any; replace hb6 := (But.of (D := R) (below_d (Below.refl w4.heap.size w4))).trans hb6; have M6 : Only [R, w.heap.size, w.heap.size + 1] w4 w6 := only_but hb6 (by simp)))
    all_goals
      have HN7 := hid (hn7.mono (B' := w2.heap.size) (by have := hb6.size; omega))
      have HNF := hid (hnF.keep (Keep.but B47 (by omega)))
      have HZ := hid (And.intro (box3_but B47 (by omega) c2) (box3_but B47 (by omega) c4))
      have HBB := hid (B47.new B1 (by omega))
      have hnu : nodes u ≤ 33 := by omega
      clear hb7 hr7 hn7 B47 M7 bF hnF c2 c4 B1 hb6 hr6 hn6 M6
      go_wp2_with fail
      have ne1 : w.heap.size ≠ w.heap.size + 1 := by omega
      have ne2 : w.heap.size + 1 ≠ w.heap.size := by omega
      have z2 := box3_set2 (box3_set1 (box3_set0 HZ.out.1 (.int .i64 t.kind)) (.int .i64 t.val)) (.slice a1 t.kids.length n1)
      have z4 := box3_set2 (box3_set1 (box3_set0 (box3_but (But.set _ w.heap.size 2 (.slice a1 t.kids.length n1)) ne2 (box3_but (But.set _ w.heap.size 1 (.int .i64 t.val)) ne2 (box3_but (But.set _ w.heap.size 0 (.int .i64 t.kind)) ne2 HZ.out.2))) (.int .i64 u.kind)) (.int .i64 u.val)) (.slice a7 u.kids.length n7)
      have z2' := box3_but (But.set _ (w.heap.size + 1) 2 (.slice a7 u.kids.length n7)) ne1 (box3_but (But.set _ (w.heap.size + 1) 1 (.int .i64 u.val)) ne1 (box3_but (But.set _ (w.heap.size + 1) 0 (.int .i64 u.kind)) ne1 z2))
      obtain ⟨i0, i1, i2, i3, _⟩ := z2'
      obtain ⟨j0, j1, j2, j3, _⟩ := z4
      refine bodyPost_ret (v := .tuple #[.agg #[.int .i64 t.kind, .int .i64 t.val, .slice a1 t.kids.length n1], .agg #[.int .i64 u.kind, .int .i64 u.val, .slice a7 u.kids.length n7]]) (by simp [results, Tryd.results5, go_sem, i1, i2, i3, j1, j2, j3]) rfl ?_
      exact ⟨_, _, t, u, rfl, (newTr_set3 (newTr_set3 HNF.out (by omega) _ _ _) (by omega) _ _ _).mono (by omega), by omega, (newTr_set3 (newTr_set3 HN7.out (by omega) _ _ _) (by omega) _ _ _).mono (by omega), by omega, below_set3 (below_set3 HBB.out (by omega) _ _ _) (by omega) _ _ _⟩

end Expr
end Go.Proofs.YtplogaapgolaiaaDoor
