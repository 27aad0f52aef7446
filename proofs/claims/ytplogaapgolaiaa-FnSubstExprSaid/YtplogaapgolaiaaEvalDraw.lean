/- The reference's DrawEvalExpr: some small expression and at most three numbers. Conditions: those of each contract. -/
import Derived.Test.YtplogaapgolaiaaValuesDraw
import Derived.Deep.RegionHeld3
namespace Go.Proofs.Ytplogaapgolaiaa
open Go.RowKit
namespace Expr

theorem only_a {S : List Nat} {w W : World} (h : Only S w W) (o : Obj) : Only S w (W.alloc o) := h.trans (Only.below (below_alloc _ _))
theorem only_d {S : List Nat} {w W : World} (h : Only S w W) : Only S w W.drew := ⟨h.os, h.tape, h.output, h.size, h.block⟩
theorem only_s {S : List Nat} {w W : World} (h : Only S w W) {a : Addr} (ha : a.block ∈ S) (u : Value) : Only S w (W.setCell a u) := h.set ha u
theorem only_but {S : List Nat} {w W : World} {D : Nat} (h : But w D W) (hD : D ∈ S) : Only S w W := ⟨h.os, h.tape, h.output, h.size, fun b hb hn => h.block b hb (fun e => hn (e ▸ hD))⟩

/-- what a call comes to -/
def EvDrawn (w : World) (e : Ending) (w' : World) : Prop := ∃ (x v : Value) (t : Tr) (l : List Int), e = .returned (.tuple #[x, v]) ∧ NewTr w.heap.size t x w' ∧ nodes t ≤ 32 ∧ NewV w.heap.size (l.map (Value.int .i64)) v w' ∧ l.length ≤ 3 ∧ (∀ n, n ∈ l → i64 n) ∧ Below w.heap.size w w'

set_option maxRecDepth 100000 in
set_option maxHeartbeats 2000000 in
theorem drawEval_any (w : World) (a : Option Addr) (len cap : Nat) (hb : ByteArg w a len cap) : Calls Try.prog 15 #[.slice a len cap] w (EvDrawn w) := by
  go_enter Try.func15, Try.ntmps15
  go_wp2_with fail
  refine (open_any _ a len cap (hb.next (below_alloc _ _))).mono ?_
  rintro e w1 ⟨v, rfl, ⟨R, B, rfl, hR, hr⟩, hb1⟩
  have c2 := box3_next hb1 (box3_new w (.int .i64 0) (.int .i64 0) (.slice none 0 0) 25)
  have B1 := below_next (below_alloc w _) hb1
  simp at hR
  clear hb1
  go_wp2_with fail
  refine (form_any w1 R B 0 hr (by omega)).mono ?_
  rintro e w2 ⟨v, t, p2, rfl, hn, hnt, _, hb2, hr2, hp2⟩
  obtain ⟨a1, n1, rfl⟩ := TrIn_shape hn.any
  replace c2 := box3_but hb2 (by omega) c2
  replace B1 := hb2.new B1 (by omega)
  clear hb2 hr
  go_wp2_with fail
  have hR2 := hr2.lt
  refine (mut_any w2 R B p2 t _ hn.any (by omega) hr2 (by omega)).mono ?_
  rintro e w3 ⟨v, t', p3, rfl, hn', hnt', hb3, hr3, hp3⟩
  obtain ⟨a2, n2, rfl⟩ := TrIn_shape hn'.any
  have hl := c2.1
  replace c2 := box3_but hb3 (by omega) c2
  replace B1 := hb3.new B1 (by omega)
  clear hb3 hr2 hn
  have hRl := hr3.lt
  go_wp2_with fail
  refine wp_gen (fun W => Below w.heap.size w W ∧ Box3 W w.heap.size (.int .i64 0) (.int .i64 0) (.slice none 0 0) ∧ Box3 W w3.heap.size (.int .i64 t'.kind) (.int .i64 t'.val) (.slice a2 t'.kids.length n2) ∧ NewTr w2.heap.size t' (.agg #[.int .i64 t'.kind, .int .i64 t'.val, .slice a2 t'.kids.length n2]) W ∧ Rd B W R p3) ⟨below_a B1 _, box3_next (below_alloc _ _) c2, box3_new .., hn'.below (below_alloc _ _), hr3.next (below_alloc _ _)⟩ ?_
  rintro W ⟨BW, bz, bF, hnW, hrW⟩
  have hzl := bz.1
  have hF1 := bF.1
  have hl2 : w.heap.size < w2.heap.size := hl
  have HF := hid (fun w' (M : Only [R, w.heap.size] W w') => (⟨((World.cell?_of_block (w := W) (a := ⟨w3.heap.size, 0, none⟩) (M.block _ hF1 (by simp; omega)))).trans bF.2.1, ((World.cell?_of_block (w := W) (a := ⟨w3.heap.size, 1, none⟩) (M.block _ hF1 (by simp; omega)))).trans bF.2.2.1, ((World.cell?_of_block (w := W) (a := ⟨w3.heap.size, 2, none⟩) (M.block _ hF1 (by simp; omega)))).trans bF.2.2.2.1⟩ :
    w'.cell? ⟨w3.heap.size, 0, none⟩ = some (.int .i64 t'.kind) ∧ w'.cell? ⟨w3.heap.size, 1, none⟩ = some (.int .i64 t'.val) ∧ w'.cell? ⟨w3.heap.size, 2, none⟩ = some (.slice a2 t'.kids.length n2)))
  go_region_held3 (fun w' => w'.cell? ⟨w3.heap.size, 0, none⟩ = some (.int .i64 t'.kind) ∧ w'.cell? ⟨w3.heap.size, 1, none⟩ = some (.int .i64 t'.val) ∧ w'.cell? ⟨w3.heap.size, 2, none⟩ = some (.slice a2 t'.kids.length n2))
    (first | (refine HF.out _ ?_; (repeat (first | exact Only.refl _ _ | assumption | refine only_a ?_ _ | refine only_d ?_ | refine only_s ?_ (by simp) _)); done) | go_keep)
    ((go_at_call 37; refine (values_any _ R B p3 (hrW.next (by repeat (first | exact Below.refl _ _ | assumption | refine below_a ?_ _ | refine below_o ?_ _ | refine below_d ?_ | refine below_n ?_ _ | refine below_s ?_ (by first | (simp; done) | (simp; omega) | omega) _))) (by omega)).mono ?_; rintro e w4 ⟨vv, l, p4, rfl, hV, hl3, hi, hb4, hr4, hp4⟩; have hVs := hV; obtain ⟨aV, cV, bV, rfl, hcV, hcV2, oV, gV⟩ := hVs; have M4 : Only [R, w.heap.size] W w4 := (only_d (Only.refl _ _)).trans (only_but hb4 (by simp)); have bz4 := box3_but hb4 (by omega) (box3_next (show Below W.heap.size W _ from (by repeat (first | exact Below.refl _ _ | assumption | refine below_a ?_ _ | refine below_o ?_ _ | refine below_d ?_ | refine below_n ?_ _ | refine below_s ?_ (by first | (simp; done) | (simp; omega) | omega) _))) bz); obtain ⟨z0, z1, z2, z3, z4, z5, z6⟩ := bz4; have HN4 := hid ((hnW.below (show Below W.heap.size W _ from (by repeat (first | exact Below.refl _ _ | assumption | refine below_a ?_ _ | refine below_o ?_ _ | refine below_d ?_ | refine below_n ?_ _ | refine below_s ?_ (by first | (simp; done) | (simp; omega) | omega) _)))).keep (Keep.but hb4 (by omega))); have BB4 := hid (hb4.new (below_next BW (show Below W.heap.size W _ from (by repeat (first | exact Below.refl _ _ | assumption | refine below_a ?_ _ | refine below_o ?_ _ | refine below_d ?_ | refine below_n ?_ _ | refine below_s ?_ (by first | (simp; done) | (simp; omega) | omega) _)))) (by omega)); have HV := hid (hV : NewV _ _ _ w4); clear hb4 hr4 hV oV gV))
  all_goals
    have bz' : Box3 w4 w.heap.size (.int .i64 0) (.int .i64 0) (.slice none 0 0) := ⟨z0, z1, z2, z3, z4, z5, z6⟩
    clear BW M4
    go_wp2_with fail
    obtain ⟨y0, y1, y2, y3, _⟩ := box3_set2 (box3_set1 (box3_set0 bz' (.int .i64 t'.kind)) (.int .i64 t'.val)) (.slice a2 t'.kids.length n2)
    refine bodyPost_ret (v := .tuple #[.agg #[.int .i64 t'.kind, .int .i64 t'.val, .slice a2 t'.kids.length n2], .slice aV (l.map (Value.int .i64)).length cV]) (by simp [results, Try.results15, go_sem, y1, y2, y3]) rfl ?_
    refine ⟨_, _, t', l, rfl, (newTr_set3 HN4.out hl2 _ _ _).mono (by omega), by omega, ?_, hl3, hi, below_set3 BB4.out (by omega) _ _ _⟩
    obtain ⟨aV', cV', bV', e1, k1, k2, k3, k4⟩ := HV.out
    refine ⟨aV', cV', bV', e1, k1, k2, k3.only ((((Only.refl [w.heap.size] w4).set (a := ⟨w.heap.size, 0, none⟩) (by simp) _).set (a := ⟨w.heap.size, 1, none⟩) (by simp) _).set (a := ⟨w.heap.size, 2, none⟩) (by simp) _) (fun b hb h => ?_), fun b hb => ?_⟩
    · have := k4 b hb; simp at h; simp at this; omega
    · have := k4 b hb; simp at this; omega

end Expr
end Go.Proofs.Ytplogaapgolaiaa
