/- The reference's DrawSubstExpr: two small expressions and a number. Conditions: those of each contract. -/
import Derived.Test.YtplogaapgolaiaaEvalDraw
namespace Go.Proofs.Ytplogaapgolaiaa
open Go.RowKit
namespace Expr

theorem rand_le1 (d : Int) (h1 : 1 ≤ d) (h2 : d ≤ 4) (w : World) (R B p : Nat) (hr : Rd B w R p) (hp : p + 45 ≤ 1000000) : Calls Try.prog 43 #[.pointer (some ⟨R, 0, none⟩), .int .i64 d] w (DrawPost B 45 31 R p w) := by
  by_cases h : d = 1
  · subst h
    refine (rand1 w R B p hr (by omega)).mono ?_
    rintro e w' ⟨v, t, p', rfl, hn, hm, hb, hr', hp'⟩
    exact ⟨v, t, p', rfl, hn, by omega, hb, hr', by omega⟩
  · exact rand_le d (by omega) h2 w R B p hr hp

theorem num_drew (ns : List Int) (lo hi : Int) (hn : ∀ n ∈ ns, lo ≤ n ∧ n ≤ hi) (h0 : 0 < ns.length) (h1 : ns.length ≤ 100) (B0 : Nat) (w : World) (t : TypeId) (b R p : Nat) (hb : b = w.heap.size) (hr : Rd B0 w R p) (hp : p ≤ 1000000) :
    Calls Try.prog 42 #[.pointer (some ⟨R, 0, none⟩), .slice (some ⟨b, 0, none⟩) ns.length ns.length] (w.alloc (.cells (ns.map (Value.int .i64)).toArray t)).drew (NumPost B0 lo hi R p (w.alloc (.cells (ns.map (Value.int .i64)).toArray t)).drew) := by
  subst hb
  have hl := hr.lt
  refine num_any B0 lo hi _ R p w.heap.size ns.length (fun i => ns.getD i 0) ((hr.next (below_alloc _ _)).next (below_d (Below.refl _ _))) hp h0 h1 (by omega) (by simp) fun i hi => ?_
  show (w.alloc _).cell? _ = _ ∧ _
  rw [World.cell?_alloc_new]
  have e : ns[i]? = some (ns.getD i 0) := by rw [List.getD_eq_getElem?_getD, List.getElem?_eq_getElem hi]; rfl
  refine ⟨?_, hn _ (List.mem_of_getElem? e)⟩
  rw [List.getElem?_toArray, List.getElem?_map, e]
  rfl

def SuDrawn (w : World) (e : Ending) (w' : World) : Prop := ∃ (x z : Value) (t y : Tr) (k : Int), e = .returned (.tuple #[x, .int .i64 k, z]) ∧ NewTr w.heap.size t x w' ∧ nodes t ≤ 32 ∧ NewTr w.heap.size y z w' ∧ nodes y ≤ 32 ∧ (-1 ≤ k ∧ k ≤ 3) ∧ Below w.heap.size w w'

set_option maxRecDepth 100000 in
set_option maxHeartbeats 4000000 in
theorem drawSubst_any (w : World) (a : Option Addr) (len cap : Nat) (hb : ByteArg w a len cap) : Calls Try.prog 18 #[.slice a len cap] w (SuDrawn w) := by
  go_enter Try.func18, Try.ntmps18
  go_wp2_with fail
  refine (open_any _ a len cap (hb.next (by repeat (first | exact Below.refl _ _ | assumption | refine below_a ?_ _ | refine below_o ?_ _ | refine below_d ?_ | refine below_n ?_ _ | refine below_s ?_ (by first | (simp; done) | (simp; omega) | omega) _)))).mono ?_
  rintro e w1 ⟨v, rfl, ⟨R, B, rfl, hR, hr⟩, hb1⟩
  have c2 := box3_next hb1 (box3_next (below_alloc _ _) (box3_new w (.int .i64 0) (.int .i64 0) (.slice none 0 0) 25))
  have c4 := box3_next hb1 (box3_at (B := w.heap.size + 1) (a := .int .i64 0) (b := .int .i64 0) (c := .slice none 0 0) (t := 25) (by simp))
  have B1 := below_next (show Below w.heap.size w _ from (by repeat (first | exact Below.refl _ _ | assumption | refine below_a ?_ _ | refine below_o ?_ _ | refine below_d ?_ | refine below_n ?_ _ | refine below_s ?_ (by first | (simp; done) | (simp; omega) | omega) _))) hb1
  simp at hR
  clear hb1
  go_wp2_with fail
  refine (form_any w1 R B 0 hr (by omega)).mono ?_
  rintro e w2 ⟨v, t, p2, rfl, hn, hnt, _, hb2, hr2, hp2⟩
  obtain ⟨a1, n1, rfl⟩ := TrIn_shape hn.any
  replace c2 := box3_but hb2 (by omega) c2
  replace c4 := box3_but hb2 (by omega) c4
  replace B1 := hb2.new B1 (by omega)
  clear hb2 hr
  go_wp2_with fail
  have hR2 := hr2.lt
  refine (mut_any w2 R B p2 t _ hn.any (by omega) hr2 (by omega)).mono ?_
  rintro e w3 ⟨v, t', p3, rfl, hn', hnt', hb3, hr3, hp3⟩
  obtain ⟨a2, n2, rfl⟩ := TrIn_shape hn'.any
  have hl := c4.1
  have hw23 := hb3.size
  replace c2 := box3_but hb3 (by omega) c2
  replace c4 := box3_but hb3 (by omega) c4
  replace B1 := hb3.new B1 (by omega)
  clear hb3 hr2 hn
  go_wp2_with fail
  refine (num_at [0, 1, 2, 0, -1, 3] (-1) 3 (by simp) (by decide) (by decide) B _ _ _ R p3 (by simp) (hr3.next (below_alloc _ _)) (by omega)).mono ?_
  rintro e w4 ⟨k, rfl, ⟨hk1, hk2⟩, hb4, hr4⟩
  have bF := box3_but hb4 (by omega) (box3_next (below_alloc _ _) (box3_new w3 (.int .i64 t'.kind) (.int .i64 t'.val) (.slice a2 t'.kids.length n2) 25))
  have hnF := (((hn'.below (below_alloc _ _)).below (below_alloc _ _)).keep (Keep.but hb4 (by omega)))
  replace c2 := box3_but hb4 (by omega) (box3_next (below_alloc _ _) (box3_next (below_alloc _ _) c2))
  replace c4 := box3_but hb4 (by omega) (box3_next (below_alloc _ _) (box3_next (below_alloc _ _) c4))
  replace B1 := hb4.new (below_a (below_a B1 _) _) (by omega)
  clear hb4 hr3 hn'
  go_wp2_with fail
  have hF1 := bF.1
  have hB4 := hr4.lt
  have hne : R ≠ w3.heap.size ∧ w.heap.size ≠ w3.heap.size ∧ w.heap.size + 1 ≠ w3.heap.size ∧ w.heap.size ≠ R ∧ w.heap.size + 1 ≠ R := by omega
  have HF := hid (fun w' (M : Only [R, w.heap.size, w.heap.size + 1] w4 w') => (⟨((World.cell?_of_block (w := w4) (a := ⟨w3.heap.size, 0, none⟩) (M.block _ hF1 (by simp; omega)))).trans bF.2.1, ((World.cell?_of_block (w := w4) (a := ⟨w3.heap.size, 1, none⟩) (M.block _ hF1 (by simp; omega)))).trans bF.2.2.1, ((World.cell?_of_block (w := w4) (a := ⟨w3.heap.size, 2, none⟩) (M.block _ hF1 (by simp; omega)))).trans bF.2.2.2.1⟩ :
    w'.cell? ⟨w3.heap.size, 0, none⟩ = some (.int .i64 t'.kind) ∧ w'.cell? ⟨w3.heap.size, 1, none⟩ = some (.int .i64 t'.val) ∧ w'.cell? ⟨w3.heap.size, 2, none⟩ = some (.slice a2 t'.kids.length n2)))
  go_region_held3 (fun w' => w'.cell? ⟨w3.heap.size, 0, none⟩ = some (.int .i64 t'.kind) ∧ w'.cell? ⟨w3.heap.size, 1, none⟩ = some (.int .i64 t'.val) ∧ w'.cell? ⟨w3.heap.size, 2, none⟩ = some (.slice a2 t'.kids.length n2))
    (first | (refine HF.out _ ?_; (repeat (first | with_reducible assumption | with_reducible exact Only.refl _ _ | with_reducible refine only_a ?_ _ | with_reducible refine only_d ?_ | with_reducible refine only_s ?_ (by simp) _)); done) | go_keep)
    (first
      | (go_at_call 42; have HX := num_drew [1, 2, 2] 1 2 (by simp) (by decide) (by decide) B w4 3 w4.heap.size R (p3 + 1) rfl hr4 (by omega); refine HX.mono ?_; clear HX; rintro e w5 ⟨d, rfl, ⟨hd1, hd2⟩, hb5, hr5⟩; replace hb5 := (But.of (D := R) (below_d (below_alloc w4 (.cells #[.int .i64 1, .int .i64 2, .int .i64 2] 3)))).trans hb5; have M5 : Only [R, w.heap.size, w.heap.size + 1] w4 w5 := only_but hb5 (by simp))
      | (go_at_call 43; have HX := rand_le1 d hd1 (by omega) w5 R B (p3 + 1 + 1) hr5 (by omega); refine HX.mono ?_; clear HX; rintro e w6 ⟨v6, t6, p6, rfl, hn6, hnt6, hb6, hr6, hp6⟩; obtain ⟨a6, n6, rfl⟩ := TrIn_shape hn6.any; have M6 : Only [R, w.heap.size, w.heap.size + 1] w4 w6 := only_but (hb5.trans hb6) (by simp))
      | (go_at_call 35; have HX := mut_any w6 R B p6 t6 _ hn6.any (by omega) hr6 (by omega); refine HX.mono ?_; clear HX; rintro e w7 ⟨v7, t7, p7, rfl, hn7, hnt7, hb7, hr7, hp7⟩; obtain ⟨a7, n7, rfl⟩ := TrIn_shape hn7.any; have B47 := (hb5.trans hb6).trans hb7; have M7 : Only [R, w.heap.size, w.heap.size + 1] w4 w7 := only_but B47 (by simp); have z2 := box3_but B47 (by omega) c2; have z4 := box3_but B47 (by omega) c4; obtain ⟨x0, x1, x2, x3, x4, x5, x6⟩ := z2; obtain ⟨y0, y1, y2, y3, y4, y5, y6⟩ := z4))
  all_goals
    have HB47 := hid B47
    have HN7 := hid (hn7.mono (B' := w2.heap.size) (by have := (hb5.trans hb6).size; have := hF1; omega))
    have HNF := hid (hnF.keep (Keep.but B47 (by omega)))
    have HZ := hid (And.intro (box3_but B47 (by omega) c2) (box3_but B47 (by omega) c4))
    have HBB := hid (B47.new B1 (by omega))
    have hn7' : nodes t7 ≤ 32 := by omega
    clear hb5 hr5 hb6 hr6 hn6 hb7 hr7 hn7 B47 M5 M6 M7 bF hnF c2 c4 B1
    go_wp2_with fail
    have hl2 : w.heap.size + 1 < w2.heap.size := hl
    have ne1 : w.heap.size ≠ w.heap.size + 1 := by omega
    have ne2 : w.heap.size + 1 ≠ w.heap.size := by omega
    have z2 := box3_set2 (box3_set1 (box3_set0 HZ.out.1 (.int .i64 t'.kind)) (.int .i64 t'.val)) (.slice a2 t'.kids.length n2)
    have z4 := box3_set2 (box3_set1 (box3_set0 (box3_but (But.set _ w.heap.size 2 (.slice a2 t'.kids.length n2)) ne2 (box3_but (But.set _ w.heap.size 1 (.int .i64 t'.val)) ne2 (box3_but (But.set _ w.heap.size 0 (.int .i64 t'.kind)) ne2 HZ.out.2))) (.int .i64 t7.kind)) (.int .i64 t7.val)) (.slice a7 t7.kids.length n7)
    have z2' := box3_but (But.set _ (w.heap.size + 1) 2 (.slice a7 t7.kids.length n7)) ne1 (box3_but (But.set _ (w.heap.size + 1) 1 (.int .i64 t7.val)) ne1 (box3_but (But.set _ (w.heap.size + 1) 0 (.int .i64 t7.kind)) ne1 z2))
    obtain ⟨i0, i1, i2, i3, _⟩ := z2'
    obtain ⟨j0, j1, j2, j3, _⟩ := z4
    refine bodyPost_ret (v := .tuple #[.agg #[.int .i64 t'.kind, .int .i64 t'.val, .slice a2 t'.kids.length n2], .int .i64 k, .agg #[.int .i64 t7.kind, .int .i64 t7.val, .slice a7 t7.kids.length n7]]) (by simp [results, Try.results18, go_sem, i1, i2, i3, j1, j2, j3]) rfl ?_
    exact ⟨_, _, t', t7, k, rfl, (newTr_set3 (newTr_set3 HNF.out (by omega) _ _ _) hl2 _ _ _).mono (by omega), by omega, (newTr_set3 (newTr_set3 HN7.out (by omega) _ _ _) hl2 _ _ _).mono (by omega), hn7', ⟨hk1, hk2⟩, below_set3 (below_set3 HBB.out (by omega) _ _ _) (by omega) _ _ _⟩
end Expr
end Go.Proofs.Ytplogaapgolaiaa
