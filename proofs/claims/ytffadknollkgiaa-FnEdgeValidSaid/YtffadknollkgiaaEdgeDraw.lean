/- The reference's l2DrawEdge: some edge. Conditions: those of each contract. -/
import Derived.Test.YtffadknollkgiaaGuardDraw
import Derived.Test.YtffadknollkgiaaEdgeIn
namespace Go.Proofs.Ytffadknollkgiaa
open Go.RowKit
set_option linter.unusedVariables false
set_option linter.unusedSimpArgs false

theorem NewTr_ge {B : Nat} {t : Tr} {v : Value} {w : World} (h : NewTr B t v w) : TrIn (fun b => B ≤ b) w t v := by
  obtain ⟨bs, h1, h2⟩ := h
  exact TrOwn_in.1 t v bs h1 h2
/-- what an edge's drawing comes to -/
def EdPost (B K : Nat) (R p : Nat) (w : World) (e : Ending) (w' : World) : Prop :=
  ∃ v x p', e = .returned v ∧ EdIn (fun b => w.heap.size ≤ b) w' x v ∧ nodes x.guard ≤ 4 ∧ nodes x.val ≤ 31 ∧ But w R w' ∧ Rd B w' R p' ∧ p' ≤ p + K
/-- the edge in its variable -/
def EdSt (w : World) (R E : Nat) (W : World) : Prop := ∃ (x : Ed) (a : Option Addr) (c : Nat) (a2 : Option Addr) (c2 : Nat), Box10 W E (.int .i64 x.src) (.int .i64 x.dst) (.int .i64 x.guard.kind) (.int .i64 x.guard.val) (.slice a x.guard.kids.length c) (.int .i64 x.var) (.int .i64 x.val.kind) (.int .i64 x.val.val) (.slice a2 x.val.kids.length c2) (.int .i64 x.sync) ∧
  (i64 x.src ∧ i64 x.dst ∧ i64 x.var ∧ i64 x.sync) ∧ TrIn (fun b => w.heap.size < b ∧ b ≠ E) W x.guard (.agg #[.int .i64 x.guard.kind, .int .i64 x.guard.val, .slice a x.guard.kids.length c]) ∧ TrIn (fun b => w.heap.size < b ∧ b ≠ E) W x.val (.agg #[.int .i64 x.val.kind, .int .i64 x.val.val, .slice a2 x.val.kids.length c2]) ∧
  nodes x.guard ≤ 4 ∧ nodes x.val ≤ 31 ∧ But w R W ∧ Box10 W w.heap.size (.int .i64 0) (.int .i64 0) (.int .i64 0) (.int .i64 0) (.slice none 0 0) (.int .i64 0) (.int .i64 0) (.int .i64 0) (.slice none 0 0) (.int .i64 0) ∧ w.heap.size < E
theorem edst_tr {w W W' : World} {E R : Nat} {t : Tr} {x : Value} (h : TrIn (fun b => w.heap.size < b ∧ b ≠ E) W t x) (hk : ∀ b, w.heap.size < b → b ≠ E → b < W.heap.size → W'.heap[b]? = W.heap[b]?) : TrIn (fun b => w.heap.size < b ∧ b ≠ E) W' t x :=
  (TrIn_frame fun b hb hl => ⟨hb, hk b hb.1 hb.2 hl⟩).1 t x h
theorem EdSt.next {w W W' : World} {R E : Nat} (h : EdSt w R E W) (hb : Below W.heap.size W W') : EdSt w R E W' := by
  obtain ⟨x, a, c, a2, c2, h1, h2, h3, h4, h5, h6, h7, h8, h9⟩ := h
  exact ⟨x, a, c, a2, c2, box10_next hb h1, h2, TrIn_below hb h3, TrIn_below hb h4, h5, h6, h7.next hb, box10_next hb h8, h9⟩
theorem EdSt.but {w W W' : World} {R E : Nat} (h : EdSt w R E W) (hb : But W R W') (hR : R < w.heap.size) : EdSt w R E W' := by
  obtain ⟨x, a, c, a2, c2, h1, h2, h3, h4, h5, h6, h7, h8, h9⟩ := h
  exact ⟨x, a, c, a2, c2, box10_but hb (by omega) h1, h2, edst_tr (R := R) h3 (fun b b1 b2 b3 => hb.block b b3 (by omega)), edst_tr (R := R) h4 (fun b b1 b2 b3 => hb.block b b3 (by omega)), h5, h6, h7.trans hb, box10_but hb (by omega) h8, h9⟩
theorem EdSt.setVar {w W : World} {R E : Nat} (h : EdSt w R E W) {n : Int} (hn : i64 n) : EdSt w R E (W.setCell ⟨E, 5, none⟩ (.int .i64 n)) := by
  obtain ⟨x, a, c, a2, c2, h1, ⟨i1, i2, i3, i4⟩, h3, h4, h5, h6, h7, h8, h9⟩ := h
  exact ⟨{ x with var := n }, a, c, a2, c2, box10_set5 h1 _, ⟨i1, i2, hn, i4⟩, edst_tr (R := R) h3 (fun b b1 b2 b3 => Below.heap_setCell _ _ _ _ b2), edst_tr (R := R) h4 (fun b b1 b2 b3 => Below.heap_setCell _ _ _ _ b2), h5, h6, But.setNew h7 (Nat.le_of_lt h9) _, box10_but (But.set _ E _ _) (by omega) h8, h9⟩
theorem EdSt.setSync {w W : World} {R E : Nat} (h : EdSt w R E W) {n : Int} (hn : i64 n) : EdSt w R E (W.setCell ⟨E, 9, none⟩ (.int .i64 n)) := by
  obtain ⟨x, a, c, a2, c2, h1, ⟨i1, i2, i3, i4⟩, h3, h4, h5, h6, h7, h8, h9⟩ := h
  exact ⟨{ x with sync := n }, a, c, a2, c2, box10_set9 h1 _, ⟨i1, i2, i3, hn⟩, edst_tr (R := R) h3 (fun b b1 b2 b3 => Below.heap_setCell _ _ _ _ b2), edst_tr (R := R) h4 (fun b b1 b2 b3 => Below.heap_setCell _ _ _ _ b2), h5, h6, But.setNew h7 (Nat.le_of_lt h9) _, box10_but (But.set _ E _ _) (by omega) h8, h9⟩
theorem EdSt.setVal {w W : World} {R E : Nat} (h : EdSt w R E W) {t : Tr} {a : Option Addr} {c : Nat} (ht : NewTr (E + 1) t (.agg #[.int .i64 t.kind, .int .i64 t.val, .slice a t.kids.length c]) W) (hm : nodes t ≤ 31) :
    EdSt w R E (((W.setCell ⟨E, 6, none⟩ (.int .i64 t.kind)).setCell ⟨E, 7, none⟩ (.int .i64 t.val)).setCell ⟨E, 8, none⟩ (.slice a t.kids.length c)) := by
  obtain ⟨x, a1, c1, a2, c2, h1, h2, h3, h4, h5, h6, h7, h8, h9⟩ := h
  have hk : ∀ b, b ≠ E → (((W.setCell ⟨E, 6, none⟩ (.int .i64 t.kind)).setCell ⟨E, 7, none⟩ (.int .i64 t.val)).setCell ⟨E, 8, none⟩ (.slice a t.kids.length c)).heap[b]? = W.heap[b]? := fun b hb =>
    (Below.heap_setCell _ _ _ _ hb).trans ((Below.heap_setCell _ _ _ _ hb).trans (Below.heap_setCell _ _ _ _ hb))
  refine ⟨{ x with val := t }, a1, c1, a, c, box10_set8 (box10_set7 (box10_set6 h1 _) _) _, h2, edst_tr (R := R) h3 (fun b b1 b2 b3 => hk b b2), ?_, h5, hm, But.setNew (But.setNew (But.setNew h7 (Nat.le_of_lt h9) _) (Nat.le_of_lt h9) _) (Nat.le_of_lt h9) _, ?_, h9⟩
  · exact (TrIn_frame fun b hb hl => ⟨⟨by have := hb; omega, by have := hb; omega⟩, hk b (by have := hb; omega)⟩).1 _ _ (NewTr_ge ht)
  · exact box10_but (But.set _ E _ _) (by omega) (box10_but (But.set _ E _ _) (by omega) (box10_but (But.set _ E _ _) (by omega) h8))
theorem EdSt.done {w W : World} {R E B K p p' : Nat} (h : EdSt w R E W) (hr : Rd B W R p') (hp : p' ≤ p + K) (hB : R < B ∧ B ≤ w.heap.size) :
    ∃ q0 q1 q2 q3 r4 l4 m4 q5 q6 q7 r8 l8 m8 q9, Box10 W E (.int .i64 q0) (.int .i64 q1) (.int .i64 q2) (.int .i64 q3) (.slice r4 l4 m4) (.int .i64 q5) (.int .i64 q6) (.int .i64 q7) (.slice r8 l8 m8) (.int .i64 q9) ∧ Box10 W w.heap.size (.int .i64 0) (.int .i64 0) (.int .i64 0) (.int .i64 0) (.slice none 0 0) (.int .i64 0) (.int .i64 0) (.int .i64 0) (.slice none 0 0) (.int .i64 0) ∧ EdPost B K R p w (.returned (.agg #[.int .i64 q0, .int .i64 q1, .int .i64 q2, .int .i64 q3, .slice r4 l4 m4, .int .i64 q5, .int .i64 q6, .int .i64 q7, .slice r8 l8 m8, .int .i64 q9])) ((((((((((W.setCell ⟨w.heap.size, 0, none⟩ (.int .i64 q0)).setCell ⟨w.heap.size, 1, none⟩ (.int .i64 q1)).setCell ⟨w.heap.size, 2, none⟩ (.int .i64 q2)).setCell ⟨w.heap.size, 3, none⟩ (.int .i64 q3)).setCell ⟨w.heap.size, 4, none⟩ (.slice r4 l4 m4)).setCell ⟨w.heap.size, 5, none⟩ (.int .i64 q5)).setCell ⟨w.heap.size, 6, none⟩ (.int .i64 q6)).setCell ⟨w.heap.size, 7, none⟩ (.int .i64 q7)).setCell ⟨w.heap.size, 8, none⟩ (.slice r8 l8 m8)).setCell ⟨w.heap.size, 9, none⟩ (.int .i64 q9)) := by
  obtain ⟨x, a, c, a2, c2, h1, ⟨i1, i2, i3, i4⟩, h3, h4, h5, h6, h7, h8, h9⟩ := h
  refine ⟨_, _, _, _, _, _, _, _, _, _, _, _, _, _, h1, h8, _, x, p', rfl, ⟨a, c, a2, c2, rfl, i1, i2, i3, i4, ?_, ?_⟩, h5, h6, ?_, ?_, hp⟩
  · exact (TrIn_frame fun b hb hl => ⟨Nat.le_of_lt hb.1, (keep_set10 (Keep.refl (w.heap.size + 1) W) (Nat.lt_succ_self _) _ _ _ _ _ _ _ _ _ _).block b hb.1 hl⟩).1 _ _ h3
  · exact (TrIn_frame fun b hb hl => ⟨Nat.le_of_lt hb.1, (keep_set10 (Keep.refl (w.heap.size + 1) W) (Nat.lt_succ_self _) _ _ _ _ _ _ _ _ _ _).block b hb.1 hl⟩).1 _ _ h4
  · exact (But.setNew (But.setNew (But.setNew (But.setNew (But.setNew (But.setNew (But.setNew (But.setNew (But.setNew (But.setNew h7 (Nat.le_refl _) _) (Nat.le_refl _) _) (Nat.le_refl _) _) (Nat.le_refl _) _) (Nat.le_refl _) _) (Nat.le_refl _) _) (Nat.le_refl _) _) (Nat.le_refl _) _) (Nat.le_refl _) _) (Nat.le_refl _) _)
  · exact ((((((((((hr.set hB.2 _).set hB.2 _).set hB.2 _).set hB.2 _).set hB.2 _).set hB.2 _).set hB.2 _).set hB.2 _).set hB.2 _).set hB.2 _)

open Go.Proofs.Ytffadknollkgiaa.Expr in
set_option maxRecDepth 100000 in
set_option maxHeartbeats 4000000 in
theorem drawEdge_any (w : World) (R B p : Nat) (n : Int) (hr : Rd B w R p) (hp : p + 60 ≤ 1000000) (hn : 0 ≤ n ∧ n ≤ 100) : Calls Try.prog 40 #[.pointer (some ⟨R, 0, none⟩), .int .i64 n] w (EdPost B 60 R p w) := by
  have hB := hr.lt
  go_enter Try.func40, Try.ntmps40
  go_wp2_with fail
  refine (pick_any B _ _ R p (hr.next (below_alloc _ _)) (by omega) (by omega) (by omega)).mono ?_
  rintro e w1 ⟨i1, rfl, ⟨i10, i11, i12⟩, hb1, hr1⟩
  have c4 := box10_but hb1 (by omega) (box10_new w (.int .i64 0) (.int .i64 0) (.int .i64 0) (.int .i64 0) (.slice none 0 0) (.int .i64 0) (.int .i64 0) (.int .i64 0) (.slice none 0 0) (.int .i64 0) 27)
  have B1 : But w R w1 := (But.of (below_alloc w _)).trans hb1
  have hi1 : i64 i1 := by unfold i64; omega
  clear hb1
  go_wp2_with fail
  refine (pick_any B _ _ R (p + 1) hr1 (by omega) (by omega) (by omega)).mono ?_
  rintro e w2 ⟨i2, rfl, ⟨i20, i21, i22⟩, hb2, hr2⟩
  replace c4 := box10_but hb2 (by omega) c4
  have B2 := B1.trans hb2
  have hi2 : i64 i2 := by unfold i64; omega
  clear hb2 B1 hr1
  go_wp2_with fail
  refine (guard_any w2 R B (p + 2) hr2 (by omega)).mono ?_
  rintro e w3 ⟨v, g, p3, rfl, hg, hgm, hb3, hr3, hp3⟩
  obtain ⟨a1, n1, rfl⟩ := TrIn_shape hg.any
  have s2 := c4.1
  replace c4 := box10_but hb3 (by omega) c4
  have B3 := B2.trans hb3
  clear hb3 B2 hr2
  have s3 := c4.1
  have hgl : TrIn (fun b => w.heap.size < b ∧ b ≠ w3.heap.size) w3 g (.agg #[.int .i64 g.kind, .int .i64 g.val, .slice a1 g.kids.length n1]) := (TrIn_frame fun b hb hl => ⟨⟨by have := hb; omega, by omega⟩, rfl⟩).1 _ _ (NewTr_ge hg)
  have HS := hid (show EdSt w R w3.heap.size (w3.alloc (.cells #[.int .i64 i1, .int .i64 i2, .int .i64 g.kind, .int .i64 g.val, .slice a1 g.kids.length n1, .int .i64 (-1), .int .i64 0, .int .i64 0, .slice none 0 0, .int .i64 0] 27)) from
    ⟨⟨i1, i2, g, -1, .mk 0 0 [], 0⟩, a1, n1, none, 0, box10_new w3 _ _ _ _ _ _ _ _ _ _ _, ⟨hi1, hi2, by unfold i64; simp, by unfold i64; simp⟩, TrIn_below (below_alloc _ _) hgl, (TrIn_frame fun b hb hl => ⟨⟨by have := hb; omega, by have := hb; omega⟩, rfl⟩).1 _ _ (NewTr_ge (leaf_new (w3.heap.size + 1) _ (k := 0) (v := 0) (by unfold i64; omega) (by unfold i64; omega))), hgm, by simp [nodes, nodesL], B3.next (below_alloc _ _), box10_next (below_alloc _ _) c4, s3⟩)
  have HR := hid (hr3.next (below_alloc w3 (.cells #[.int .i64 i1, .int .i64 i2, .int .i64 g.kind, .int .i64 g.val, .slice a1 g.kids.length n1, .int .i64 (-1), .int .i64 0, .int .i64 0, .slice none 0 0, .int .i64 0] 27)))
  clear hgl hg c4 B3 hr3 hgm
  go_upto_region 2 with fail
  obtain ⟨E, hE⟩ : ∃ E, E = w3.heap.size := ⟨_, rfl⟩
  rw [← hE] at HS
  rw [← hE]
  refine wp_gen (fun W => EdSt w R E W ∧ Rd B W R p3) ⟨HS.out, HR.out⟩ ?_
  rintro W0 ⟨h1, h2⟩
  replace HS := hid h1
  replace HR := hid h2
  have sE : R < E := by omega
  have sE2 : B ≤ E := by omega
  clear h1 h2 hE
  go_wp2_with fail
  refine (pick_any B _ _ R p3 HR.out (by omega) (by omega) (by omega)).mono ?_
  rintro e w5 ⟨j, rfl, ⟨j0, j1, _⟩, hb5, hr5⟩
  have HS5 := hid (HS.out.but hb5 (by omega))
  clear hb5 HS HR
  go_upto_if 19 with fail
  go_cut [6] (fun s6 wx => ∃ p', Hid (EdSt w R E wx ∧ Rd B wx R p') ∧ p' ≤ p + 57)
  case first =>
    by_cases hj : 0 < j
    · obtain ⟨x, a, c, a2, c2, hX, _⟩ := HS5.out
      obtain ⟨xl, ⟨x0, x1, x2, x3, x4, x5, x6, x7, x8, x9⟩, ⟨f0, f1, f2, f3, f4, f5, f6, f7, f8, f9⟩⟩ := hX
      go_wp2_with fail
      refine (num_new [0, 1, 0, 2] 0 2 (by simp) (by decide) (by decide) B w5 _ R (p3 + 1) hr5 (by omega)).mono ?_
      rintro e w6 ⟨k, rfl, ⟨k0, k2⟩, hb6, hr6⟩
      have hki : i64 k := by unfold i64; omega
      have HS6 := hid ((HS5.out.next (below_alloc _ _)).but hb6 (by omega))
      have HS7 := hid (HS6.out.setVar hki)
      have HR7 := hid (hr6.set (a := ⟨E, 5, none⟩) (by simp; omega) (.int .i64 k))
      clear x0 x1 x2 x3 x4 x5 x6 x7 x8 x9 xl f0 f1 f2 f3 f4 f5 f6 f7 f8 f9 hb6 hr5 hr6 HS5
      obtain ⟨x', a', c', a2', c2', hX, _⟩ := HS6.out
      obtain ⟨xl, ⟨x0, x1, x2, x3, x4, x5, x6, x7, x8, x9⟩, ⟨f0, f1, f2, f3, f4, f5, f6, f7, f8, f9⟩⟩ := hX
      clear HS6
      go_upto_region 4 with fail
      refine wp_gen (fun W => EdSt w R E W ∧ Rd B W R (p3 + 2) ∧ W.cell? ⟨E, 5, none⟩ = some (.int .i64 k)) ⟨HS7.out, HR7.out, World.cell?_setCell_same _ _ _ x5⟩ ?_
      clear x0 x1 x2 x3 x4 x5 x6 x7 x8 x9 xl f0 f1 f2 f3 f4 f5 f6 f7 f8 f9 HS7 HR7
      rintro W7 ⟨h1, h2, h3⟩
      have HS7 := hid h1
      have HR7 := hid h2
      clear h1 h2
      have hW7 := HR7.out.lt
      go_upto_region 5 with fail
      obtain ⟨V1, hV1⟩ : ∃ V1, V1 = W7.heap.size := ⟨_, rfl⟩
      rw [← hV1]
      refine wp_gen (fun W => EdSt w R E W ∧ Rd B W R (p3 + 2) ∧ Box3 W V1 (.int .i64 2) (.int .i64 k) (.slice none 0 0)) ⟨HS7.out.next (below_alloc _ _), HR7.out.next (below_alloc _ _), box3_at hV1⟩ ?_
      clear HS7 HR7 h3
      rintro W8 ⟨h1, h2, b1⟩
      have HS8 := hid h1
      have HR8 := hid h2
      have hV1R : V1 ≠ R := by omega
      clear h1 h2 hV1
      go_upto_region 6 with fail
      obtain ⟨V2, hV2⟩ : ∃ V2, V2 = W8.heap.size := ⟨_, rfl⟩
      rw [← hV2]
      refine wp_gen (fun W => EdSt w R E W ∧ Rd B W R (p3 + 2) ∧ Box3 W V1 (.int .i64 2) (.int .i64 k) (.slice none 0 0) ∧ Box3 W V2 (.int .i64 1) (.int .i64 1) (.slice none 0 0)) ⟨HS8.out.next (below_alloc _ _), HR8.out.next (below_alloc _ _), box3_next (below_alloc _ _) b1, box3_at hV2⟩ ?_
      have hV2R : V2 ≠ R := by have := HR8.out.lt; omega
      clear HS8 HR8 b1 hV2
      rintro W9 ⟨h1, h2, b1, b2⟩
      have HS9 := hid h1
      have HR9 := hid h2
      clear h1 h2
      go_wp2_with fail
      refine (pick_any B _ _ R (p3 + 2) HR9.out (by omega) (by omega) (by omega)).mono ?_
      rintro e wA ⟨m, rfl, ⟨m0, m1, _⟩, hbA, hrA⟩
      have HSA := hid (HS9.out.but hbA (by omega))
      replace b1 := box3_but hbA hV1R b1
      replace b2 := box3_but hbA hV2R b2
      clear hbA HS9 HR9
      go_upto_block 0 with fail
      have hm : m < 4 := m1 (by omega)
      rcases (by omega : m = 0 ∨ m = 1 ∨ m = 2 ∨ m = 3) with rfl | rfl | rfl | rfl
      · go_wp2_with fail
        refine (pick_any B _ _ R (p3 + 3) hrA (by omega) (by omega) (by omega)).mono ?_
        rintro e wB ⟨m, rfl, ⟨m0, m1, _⟩, hbB, hrB⟩
        have hmi : i64 m := by unfold i64; omega
        have HSB := hid (HSA.out.but hbB (by omega))
        have HSC := hid (HSB.out.setVal (leaf_new (E + 1) wB (k := 1) (v := m) (by unfold i64; omega) hmi) (by simp [nodes, nodesL]))
        have HRC := hid (((hrB.set (a := ⟨E, 6, none⟩) (by simp; omega) (.int .i64 1)).set (a := ⟨E, 7, none⟩) (by simp; omega) (.int .i64 m)).set (a := ⟨E, 8, none⟩) (by simp; omega) (.slice none 0 0))
        obtain ⟨x', a', c', a2', c2', hX, _⟩ := HSB.out
        obtain ⟨xl, ⟨x0, x1, x2, x3, x4, x5, x6, x7, x8, x9⟩, ⟨f0, f1, f2, f3, f4, f5, f6, f7, f8, f9⟩⟩ := hX
        clear hbB hrB hrA HSA HSB
        go_wp2_with fail
        go_meet
        exact ⟨_, hid ⟨HSC.out, HRC.out⟩, by omega⟩
      · have ht := two_leaves (W := wA.alloc (.cells #[.int .i64 2, .int .i64 k, .slice none 0 0, .int .i64 1, .int .i64 1, .slice none 0 0] 25)) (b := wA.heap.size) (c := 2) (N := E + 1) (k := 8) (k1 := 2) (v1 := k) (k2 := 1) (v2 := 1) (by unfold i64; omega) (by unfold i64; omega) (by unfold i64; omega) (by unfold i64; omega) (by unfold i64; omega) (row_six wA (.int .i64 2) (.int .i64 k) (.slice none 0 0) (.int .i64 1) (.int .i64 1) (.slice none 0 0) 25) (by obtain ⟨_, _, _, _, _, hX, _⟩ := HSA.out; have := hX.1; omega) (by omega) (by decide)
        have HSC := (HSA.out.next (below_alloc wA (.cells #[.int .i64 2, .int .i64 k, .slice none 0 0, .int .i64 1, .int .i64 1, .slice none 0 0] 25))).setVal ht (by simp [nodes, nodesL])
        have HRC := (((hrA.next (below_alloc wA (.cells #[.int .i64 2, .int .i64 k, .slice none 0 0, .int .i64 1, .int .i64 1, .slice none 0 0] 25))).set (a := ⟨E, 6, none⟩) (by simp; omega) (.int .i64 8)).set (a := ⟨E, 7, none⟩) (by simp; omega) (.int .i64 0)).set (a := ⟨E, 8, none⟩) (by simp; omega) (.slice (some ⟨wA.heap.size, 0, none⟩) 2 2)
        have hX := HSA.out
        obtain ⟨x', a', c', a2', c2', hX, _⟩ := hX
        obtain ⟨xl, ⟨x0, x1, x2, x3, x4, x5, x6, x7, x8, x9⟩, ⟨f0, f1, f2, f3, f4, f5, f6, f7, f8, f9⟩⟩ := hX
        simp only [Tr.kind, Tr.val, Tr.kids] at HSC
        rw [World.setCell_alloc_past _ _ _ _ xl, World.setCell_alloc_past _ _ _ _ (by simpa using xl), World.setCell_alloc_past _ _ _ _ (by simpa using xl)] at HSC HRC
        replace HSC := hid HSC
        replace HRC := hid HRC
        clear ht hrA HSA
        obtain ⟨l1, d0, d1, d2, _⟩ := b1
        obtain ⟨l2, e0, e1, e2, _⟩ := b2
        go_wp2_with fail
        go_meet
        exact ⟨_, hid ⟨HSC.out, HRC.out⟩, by omega⟩
      · have ht := two_leaves (W := wA.alloc (.cells #[.int .i64 1, .int .i64 1, .slice none 0 0, .int .i64 2, .int .i64 k, .slice none 0 0] 25)) (b := wA.heap.size) (c := 2) (N := E + 1) (k := 9) (k1 := 1) (v1 := 1) (k2 := 2) (v2 := k) (by unfold i64; omega) (by unfold i64; omega) (by unfold i64; omega) (by unfold i64; omega) (by unfold i64; omega) (row_six wA (.int .i64 1) (.int .i64 1) (.slice none 0 0) (.int .i64 2) (.int .i64 k) (.slice none 0 0) 25) (by obtain ⟨_, _, _, _, _, hX, _⟩ := HSA.out; have := hX.1; omega) (by omega) (by decide)
        have HSC := (HSA.out.next (below_alloc wA (.cells #[.int .i64 1, .int .i64 1, .slice none 0 0, .int .i64 2, .int .i64 k, .slice none 0 0] 25))).setVal ht (by simp [nodes, nodesL])
        have HRC := (((hrA.next (below_alloc wA (.cells #[.int .i64 1, .int .i64 1, .slice none 0 0, .int .i64 2, .int .i64 k, .slice none 0 0] 25))).set (a := ⟨E, 6, none⟩) (by simp; omega) (.int .i64 9)).set (a := ⟨E, 7, none⟩) (by simp; omega) (.int .i64 0)).set (a := ⟨E, 8, none⟩) (by simp; omega) (.slice (some ⟨wA.heap.size, 0, none⟩) 2 2)
        have hX := HSA.out
        obtain ⟨x', a', c', a2', c2', hX, _⟩ := hX
        obtain ⟨xl, ⟨x0, x1, x2, x3, x4, x5, x6, x7, x8, x9⟩, ⟨f0, f1, f2, f3, f4, f5, f6, f7, f8, f9⟩⟩ := hX
        simp only [Tr.kind, Tr.val, Tr.kids] at HSC
        rw [World.setCell_alloc_past _ _ _ _ xl, World.setCell_alloc_past _ _ _ _ (by simpa using xl), World.setCell_alloc_past _ _ _ _ (by simpa using xl)] at HSC HRC
        replace HSC := hid HSC
        replace HRC := hid HRC
        clear ht hrA HSA
        obtain ⟨l1, d0, d1, d2, _⟩ := b1
        obtain ⟨l2, e0, e1, e2, _⟩ := b2
        go_wp2_with fail
        go_meet
        exact ⟨_, hid ⟨HSC.out, HRC.out⟩, by omega⟩
      · go_wp2_with fail
        refine (form_any wA R B (p3 + 3) hrA (by omega)).mono ?_
        rintro e wB ⟨v, t, pB, rfl, ht, htm, hv, hbB, hrB, hpB⟩
        obtain ⟨at2, nt, rfl⟩ := TrIn_shape ht.any
        have hsA : E < wA.heap.size := by obtain ⟨_, _, _, _, _, hX, _⟩ := HSA.out; exact hX.1
        have HSB := hid (HSA.out.but hbB (by omega))
        have HSC := hid (HSB.out.setVal (ht.mono hsA) htm)
        have HRC := hid (((hrB.set (a := ⟨E, 6, none⟩) (by simp; omega) (.int .i64 t.kind)).set (a := ⟨E, 7, none⟩) (by simp; omega) (.int .i64 t.val)).set (a := ⟨E, 8, none⟩) (by simp; omega) (.slice at2 t.kids.length nt))
        obtain ⟨x', a', c', a2', c2', hX, _⟩ := HSB.out
        obtain ⟨xl, ⟨x0, x1, x2, x3, x4, x5, x6, x7, x8, x9⟩, ⟨f0, f1, f2, f3, f4, f5, f6, f7, f8, f9⟩⟩ := hX
        clear hbB hrB hrA HSA HSB ht
        go_wp2_with fail
        go_meet
        exact ⟨_, hid ⟨HSC.out, HRC.out⟩, by omega⟩
    · have hj2 : ¬ (0 < j) := hj
      have HF := hid HS5.out
      go_wp2_with fail
      go_meet
      exact ⟨p3 + 1, hid ⟨HF.out, hr5⟩, by omega⟩
  case rest =>
    obtain ⟨p', HC, hp'⟩ := hcut
    obtain ⟨h1, h2⟩ := HC.out
    have HS := hid h1
    have HR := hid h2
    clear HC h1 h2 HS5 hr5
    go_wp2_with fail
    refine (pick_any B _ _ R p' HR.out (by omega) (by omega) (by omega)).mono ?_
    rintro e wA ⟨m, rfl, _, hbA, hrA⟩
    have HSA := hid (HS.out.but hbA (by omega))
    clear hbA HS HR
    by_cases hm : m = 0
    · subst hm
      go_wp2_with fail
      refine (num_new [1, -1, 1, -1, 2, -2] (-2) 2 (by simp) (by decide) (by decide) B wA _ R (p' + 1) hrA (by omega)).mono ?_
      rintro e wB ⟨k, rfl, ⟨k0, k2⟩, hbB, hrB⟩
      have hki : i64 k := by unfold i64; omega
      have HSB := hid ((HSA.out.next (below_alloc _ _)).but hbB (by omega))
      have HSC := hid (HSB.out.setSync hki)
      have HRC := hid (hrB.set (a := ⟨E, 9, none⟩) (by simp; omega) (.int .i64 k))
      clear hbB hrB hrA HSA
      obtain ⟨x', a', c', a2', c2', hX, _⟩ := HSB.out
      obtain ⟨xl, ⟨x0, x1, x2, x3, x4, x5, x6, x7, x8, x9⟩, ⟨f0, f1, f2, f3, f4, f5, f6, f7, f8, f9⟩⟩ := hX
      clear HSB
      go_upto_region 16 with fail
      refine wp_gen (fun W => EdSt w R E W ∧ Rd B W R (p' + 2)) ⟨HSC.out, HRC.out⟩ ?_
      clear x0 x1 x2 x3 x4 x5 x6 x7 x8 x9 xl f0 f1 f2 f3 f4 f5 f6 f7 f8 f9 HSC HRC
      rintro W7 ⟨h1, h2⟩
      obtain ⟨q0, q1, q2, q3, r4, l4, m4, q5, q6, q7, r8, l8, m8, q9, ⟨xl, ⟨x0, x1, x2, x3, x4, x5, x6, x7, x8, x9⟩, ⟨f0, f1, f2, f3, f4, f5, f6, f7, f8, f9⟩⟩, ⟨yl, ⟨y0, y1, y2, y3, y4, y5, y6, y7, y8, y9⟩, ⟨g0, g1, g2, g3, g4, g5, g6, g7, g8, g9⟩⟩, hf⟩ := EdSt.done h1 h2 (p := p) (K := 60) (by omega) hB
      replace hf := hid hf
      clear h1 h2
      go_wp2_with fail
      refine bodyPost_ret (v := .agg #[.int .i64 q0, .int .i64 q1, .int .i64 q2, .int .i64 q3, .slice r4 l4 m4, .int .i64 q5, .int .i64 q6, .int .i64 q7, .slice r8 l8 m8, .int .i64 q9]) (by simp [results, Try.results40, go_sem, y0, y1, y2, y3, y4, y5, y6, y7, y8, y9]) rfl ?_
      exact hf.out
    · have hm2 : (m == 0) = false := by simpa using hm
      obtain ⟨q0, q1, q2, q3, r4, l4, m4, q5, q6, q7, r8, l8, m8, q9, ⟨xl, ⟨x0, x1, x2, x3, x4, x5, x6, x7, x8, x9⟩, ⟨f0, f1, f2, f3, f4, f5, f6, f7, f8, f9⟩⟩, ⟨yl, ⟨y0, y1, y2, y3, y4, y5, y6, y7, y8, y9⟩, ⟨g0, g1, g2, g3, g4, g5, g6, g7, g8, g9⟩⟩, hf⟩ := EdSt.done HSA.out hrA (p := p) (K := 60) (by omega) hB
      replace hf := hid hf
      clear HSA hrA
      go_wp2_with fail
      refine bodyPost_ret (v := .agg #[.int .i64 q0, .int .i64 q1, .int .i64 q2, .int .i64 q3, .slice r4 l4 m4, .int .i64 q5, .int .i64 q6, .int .i64 q7, .slice r8 l8 m8, .int .i64 q9]) (by simp [results, Try.results40, go_sem, y0, y1, y2, y3, y4, y5, y6, y7, y8, y9]) rfl ?_
      exact hf.out
end Go.Proofs.Ytffadknollkgiaa
