/- Joined texts (EdgeDraw, SysSt, SysDraw): contracts and plain laws. Conditions: those of each theorem. -/
import Derived.Test.YtgopfjnpjkpelaaDoorJY7
import Derived.Test.YtgopfjnpjkpelaaDoorJY1
import Derived.Test.YtgopfjnpjkpelaaDoorJY3
set_option linter.unusedVariables false
set_option linter.unusedSimpArgs false
namespace Go.Proofs.YtgopfjnpjkpelaaDoor
open Go.RowKit
set_option linter.unusedVariables false
set_option linter.unusedSimpArgs false

theorem NewTr_ge {B : Nat} {t : Tr} {v : Value} {w : World} (h : NewTr B t v w) : TrIn (fun b => B ≤ b) w t v := by
  obtain ⟨bs, h1, h2⟩ := h
  exact TrOwn_in.1 t v bs h1 h2
/-- what an edge's drawing comes to -/
def EdPost (B K : Nat) (R p : Nat) (w : World) (e : Ending) (w' : World) : Prop :=
  ∃ v x p', e = .returned v ∧ EdIn (fun b => w.heap.size ≤ b) w' x v ∧ nodes x.guard ≤ 4 ∧ nodes x.val ≤ 31 ∧ But w R w' ∧ Rd B w' R p' ∧ p' ≤ p + K
/-- the edge in its variable -/
def EdSt (w : World) (R E : Nat) (W : World) : Prop := ∃ (x : Ed) (a : Option Addr) (c : Nat) (a2 : Option Addr) (c2 : Nat), Box10 W E (.int .i64 x.src) (.int .i64 x.dst) (.int .i64 x.guard.kind) (.int .i64 x.guard.val) (.slice a x.guard.kids.length c) (.int .i64 x.var) (.int .i64 x.val.kind) (.int .i64 x.val.val) (.slice a2 x.val.kids.length c2) (.int .i64 x.sync) ∧
  (i64 x.src ∧ i64 x.dst ∧ i64 x.var ∧ i64 x.sync) ∧ TrIn (fun b => w.heap.size < b ∧ b ≠ E) W x.guard (.agg #[.int .i64 x.guard.kind, .int .i64 x.guard.val, .slice a x.guard.kids.length c]) ∧ TrIn (fun b => w.heap.size < b ∧ b ≠ E) W x.val (.agg #[.int .i64 x.val.kind, .int .i64 x.val.val, .slice a2 x.val.kids.length c2]) ∧
  nodes x.guard ≤ 4 ∧ nodes x.val ≤ 31 ∧ But w R W ∧ Box10 W w.heap.size (.int .i64 0) (.int .i64 0) (.int .i64 0) (.int .i64 0) (.slice none 0 0) (.int .i64 0) (.int .i64 0) (.int .i64 0) (.slice none 0 0) (.int .i64 0) ∧ w.heap.size < E
theorem edst_tr {w W W' : World} {E R : Nat} {t : Tr} {x : Value} (h : TrIn (fun b => w.heap.size < b ∧ b ≠ E) W t x) (hk : ∀ b, w.heap.size < b → b ≠ E → b < W.heap.size → W'.heap[b]? = W.heap[b]?) : TrIn (fun b => w.heap.size < b ∧ b ≠ E) W' t x :=
  (TrIn_frame fun b hb hl => ⟨hb, hk b hb.1 hb.2 hl⟩).1 t x h
theorem EdSt.next {w W W' : World} {R E : Nat} (h : EdSt w R E W) (hb : Below W.heap.size W W') : EdSt w R E W' := by
  obtain ⟨x, a, c, a2, c2, h1, h2, h3, h4, h5, h6, h7, h8, h9⟩ := h
  exact ⟨x, a, c, a2, c2, box10_next hb h1, h2, TrIn_below hb h3, TrIn_below hb h4, h5, h6, h7.next hb, box10_next hb h8, h9⟩
theorem EdSt.but {w W W' : World} {R E : Nat} (h : EdSt w R E W) (hb : But W R W') (hR : R < w.heap.size) : EdSt w R E W' := by
  obtain ⟨x, a, c, a2, c2, h1, h2, h3, h4, h5, h6, h7, h8, h9⟩ := h
  exact ⟨x, a, c, a2, c2, box10_but hb (by omega) h1, h2, edst_tr (R := R) h3 (fun b b1 b2 b3 => hb.block b b3 (by omega)), edst_tr (R := R) h4 (fun b b1 b2 b3 => hb.block b b3 (by omega)), h5, h6, h7.trans hb, box10_but hb (by omega) h8, h9⟩
theorem EdSt.setVar {w W : World} {R E : Nat} (h : EdSt w R E W) {n : Int} (hn : i64 n) : EdSt w R E (W.setCell ⟨E, 5, none⟩ (.int .i64 n)) := by
  obtain ⟨x, a, c, a2, c2, h1, ⟨i1, i2, i3, i4⟩, h3, h4, h5, h6, h7, h8, h9⟩ := h
  exact ⟨{ x with var := n }, a, c, a2, c2, box10_set5 h1 _, ⟨i1, i2, hn, i4⟩, edst_tr (R := R) h3 (fun b b1 b2 b3 => Below.heap_setCell _ _ _ _ b2), edst_tr (R := R) h4 (fun b b1 b2 b3 => Below.heap_setCell _ _ _ _ b2), h5, h6, But.setNew h7 (Nat.le_of_lt h9) _, box10_but (But.set _ E _ _) (by omega) h8, h9⟩
theorem EdSt.setSync {w W : World} {R E : Nat} (h : EdSt w R E W) {n : Int} (hn : i64 n) : EdSt w R E (W.setCell ⟨E, 9, none⟩ (.int .i64 n)) := by
  obtain ⟨x, a, c, a2, c2, h1, ⟨i1, i2, i3, i4⟩, h3, h4, h5, h6, h7, h8, h9⟩ := h
  exact ⟨{ x with sync := n }, a, c, a2, c2, box10_set9 h1 _, ⟨i1, i2, i3, hn⟩, edst_tr (R := R) h3 (fun b b1 b2 b3 => Below.heap_setCell _ _ _ _ b2), edst_tr (R := R) h4 (fun b b1 b2 b3 => Below.heap_setCell _ _ _ _ b2), h5, h6, But.setNew h7 (Nat.le_of_lt h9) _, box10_but (But.set _ E _ _) (by omega) h8, h9⟩
theorem EdSt.setVal {w W : World} {R E : Nat} (h : EdSt w R E W) {t : Tr} {a : Option Addr} {c : Nat} (ht : NewTr (E + 1) t (.agg #[.int .i64 t.kind, .int .i64 t.val, .slice a t.kids.length c]) W) (hm : nodes t ≤ 31) :
    EdSt w R E (((W.setCell ⟨E, 6, none⟩ (.int .i64 t.kind)).setCell ⟨E, 7, none⟩ (.int .i64 t.val)).setCell ⟨E, 8, none⟩ (.slice a t.kids.length c)) := by
  obtain ⟨x, a1, c1, a2, c2, h1, h2, h3, h4, h5, h6, h7, h8, h9⟩ := h
  have hk : ∀ b, b ≠ E → (((W.setCell ⟨E, 6, none⟩ (.int .i64 t.kind)).setCell ⟨E, 7, none⟩ (.int .i64 t.val)).setCell ⟨E, 8, none⟩ (.slice a t.kids.length c)).heap[b]? = W.heap[b]? := fun b hb =>
    (Below.heap_setCell _ _ _ _ hb).trans ((Below.heap_setCell _ _ _ _ hb).trans (Below.heap_setCell _ _ _ _ hb))
  refine ⟨{ x with val := t }, a1, c1, a, c, box10_set8 (box10_set7 (box10_set6 h1 _) _) _, h2, edst_tr (R := R) h3 (fun b b1 b2 b3 => hk b b2), ?_, h5, hm, But.setNew (But.setNew (But.setNew h7 (Nat.le_of_lt h9) _) (Nat.le_of_lt h9) _) (Nat.le_of_lt h9) _, ?_, h9⟩
  · exact (TrIn_frame fun b hb hl => ⟨⟨by have := hb; omega, by have := hb; omega⟩, hk b (by have := hb; omega)⟩).1 _ _ (NewTr_ge ht)
  · exact box10_but (But.set _ E _ _) (by omega) (box10_but (But.set _ E _ _) (by omega) (box10_but (But.set _ E _ _) (by omega) h8))
theorem EdSt.done {w W : World} {R E B K p p' : Nat} (h : EdSt w R E W) (hr : Rd B W R p') (hp : p' ≤ p + K) (hB : R < B ∧ B ≤ w.heap.size) :
    ∃ q0 q1 q2 q3 r4 l4 m4 q5 q6 q7 r8 l8 m8 q9, Box10 W E (.int .i64 q0) (.int .i64 q1) (.int .i64 q2) (.int .i64 q3) (.slice r4 l4 m4) (.int .i64 q5) (.int .i64 q6) (.int .i64 q7) (.slice r8 l8 m8) (.int .i64 q9) ∧ Box10 W w.heap.size (.int .i64 0) (.int .i64 0) (.int .i64 0) (.int .i64 0) (.slice none 0 0) (.int .i64 0) (.int .i64 0) (.int .i64 0) (.slice none 0 0) (.int .i64 0) ∧ EdPost B K R p w (.returned (.agg #[.int .i64 q0, .int .i64 q1, .int .i64 q2, .int .i64 q3, .slice r4 l4 m4, .int .i64 q5, .int .i64 q6, .int .i64 q7, .slice r8 l8 m8, .int .i64 q9])) ((((((((((W.setCell ⟨w.heap.size, 0, none⟩ (.int .i64 q0)).setCell ⟨w.heap.size, 1, none⟩ (.int .i64 q1)).setCell ⟨w.heap.size, 2, none⟩ (.int .i64 q2)).setCell ⟨w.heap.size, 3, none⟩ (.int .i64 q3)).setCell ⟨w.heap.size, 4, none⟩ (.slice r4 l4 m4)).setCell ⟨w.heap.size, 5, none⟩ (.int .i64 q5)).setCell ⟨w.heap.size, 6, none⟩ (.int .i64 q6)).setCell ⟨w.heap.size, 7, none⟩ (.int .i64 q7)).setCell ⟨w.heap.size, 8, none⟩ (.slice r8 l8 m8)).setCell ⟨w.heap.size, 9, none⟩ (.int .i64 q9)) := by
  obtain ⟨x, a, c, a2, c2, h1, ⟨i1, i2, i3, i4⟩, h3, h4, h5, h6, h7, h8, h9⟩ := h
  refine ⟨_, _, _, _, _, _, _, _, _, _, _, _, _, _, h1, h8, _, x, p', rfl, ⟨a, c, a2, c2, rfl, i1, i2, i3, i4, ?_, ?_⟩, h5, h6, ?_, ?_, hp⟩
  · exact (TrIn_frame fun b hb hl => ⟨Nat.le_of_lt hb.1, (keep_set10 (Keep.refl (w.heap.size + 1) W) (Nat.lt_succ_self _) _ _ _ _ _ _ _ _ _ _).block b hb.1 hl⟩).1 _ _ h3
  · exact (TrIn_frame fun b hb hl => ⟨Nat.le_of_lt hb.1, (keep_set10 (Keep.refl (w.heap.size + 1) W) (Nat.lt_succ_self _) _ _ _ _ _ _ _ _ _ _).block b hb.1 hl⟩).1 _ _ h4
  · exact (But.setNew (But.setNew (But.setNew (But.setNew (But.setNew (But.setNew (But.setNew (But.setNew (But.setNew (But.setNew h7 (Nat.le_refl _) _) (Nat.le_refl _) _) (Nat.le_refl _) _) (Nat.le_refl _) _) (Nat.le_refl _) _) (Nat.le_refl _) _) (Nat.le_refl _) _) (Nat.le_refl _) _) (Nat.le_refl _) _) (Nat.le_refl _) _)
  · exact ((((((((((hr.set hB.2 _).set hB.2 _).set hB.2 _).set hB.2 _).set hB.2 _).set hB.2 _).set hB.2 _).set hB.2 _).set hB.2 _).set hB.2 _)

open Go.Proofs.YtgopfjnpjkpelaaDoor.Expr in
set_option maxRecDepth 100000 in
set_option maxHeartbeats 4000000 in
theorem drawEdge_any (w : World) (R B p : Nat) (n : Int) (hr : Rd B w R p) (hp : p + 60 ≤ 1000000) (hn : 0 ≤ n ∧ n ≤ 100) : Calls Tryd.prog 25 #[.pointer (some ⟨R, 0, none⟩), .int .i64 n] w (EdPost B 60 R p w) := by
  have hB := hr.lt
  go_enter Tryd.func25, Tryd.ntmps25
  go_wp2_with fail
  refine (pick_any B _ _ R p (hr.next (below_alloc _ _)) (by omega) (by omega) (by omega)).mono ?_
  rintro e w1 ⟨i1, rfl, ⟨i10, i11, i12⟩, hb1, hr1⟩
  have c4 := box10_but hb1 (by omega) (box10_new w (.int .i64 0) (.int .i64 0) (.int .i64 0) (.int .i64 0) (.slice none 0 0) (.int .i64 0) (.int .i64 0) (.int .i64 0) (.slice none 0 0) (.int .i64 0) 47)
  have B1 : But w R w1 := (But.of (below_alloc w _)).trans hb1
  have hi1 : i64 i1 := by unfold i64; omega
  clear hb1
  go_wp2_with fail
  refine (pick_any B _ _ R (p + 1) hr1 (by omega) (by omega) (by omega)).mono ?_
  rintro e w2 ⟨i2, rfl, ⟨i20, i21, i22⟩, hb2, hr2⟩
  replace c4 := box10_but hb2 (by omega) c4
  have B2 := B1.trans hb2
  have hi2 : i64 i2 := by unfold i64; omega
  clear hb2 B1 hr1
  go_wp2_with fail
  refine (guard_any w2 R B (p + 2) hr2 (by omega)).mono ?_
  rintro e w3 ⟨v, g, p3, rfl, hg, hgm, hb3, hr3, hp3⟩
  obtain ⟨a1, n1, rfl⟩ := TrIn_shape hg.any
  have s2 := c4.1
  replace c4 := box10_but hb3 (by omega) c4
  have B3 := B2.trans hb3
  clear hb3 B2 hr2
  have s3 := c4.1
  have hgl : TrIn (fun b => w.heap.size < b ∧ b ≠ w3.heap.size) w3 g (.agg #[.int .i64 g.kind, .int .i64 g.val, .slice a1 g.kids.length n1]) := (TrIn_frame fun b hb hl => ⟨⟨by have := hb; omega, by omega⟩, rfl⟩).1 _ _ (NewTr_ge hg)
  have HS := hid (show EdSt w R w3.heap.size (w3.alloc (.cells #[.int .i64 i1, .int .i64 i2, .int .i64 g.kind, .int .i64 g.val, .slice a1 g.kids.length n1, .int .i64 (-1), .int .i64 0, .int .i64 0, .slice none 0 0, .int .i64 0] 47)) from
    ⟨⟨i1, i2, g, -1, .mk 0 0 [], 0⟩, a1, n1, none, 0, box10_new w3 _ _ _ _ _ _ _ _ _ _ _, ⟨hi1, hi2, by unfold i64; simp, by unfold i64; simp⟩, TrIn_below (below_alloc _ _) hgl, (TrIn_frame fun b hb hl => ⟨⟨by have := hb; omega, by have := hb; omega⟩, rfl⟩).1 _ _ (NewTr_ge (leaf_new (w3.heap.size + 1) _ (k := 0) (v := 0) (by unfold i64; omega) (by unfold i64; omega))), hgm, by simp [nodes, nodesL], B3.next (below_alloc _ _), box10_next (below_alloc _ _) c4, s3⟩)
  have HR := hid (hr3.next (below_alloc w3 (.cells #[.int .i64 i1, .int .i64 i2, .int .i64 g.kind, .int .i64 g.val, .slice a1 g.kids.length n1, .int .i64 (-1), .int .i64 0, .int .i64 0, .slice none 0 0, .int .i64 0] 47)))
  clear hgl hg c4 B3 hr3 hgm
  go_upto_region 2 with fail
  obtain ⟨E, hE⟩ : ∃ E, E = w3.heap.size := ⟨_, rfl⟩
  rw [← hE] at HS
  rw [← hE]
  refine wp_gen (fun W => EdSt w R E W ∧ Rd B W R p3) ⟨HS.out, HR.out⟩ ?_
  rintro W0 ⟨h1, h2⟩
  replace HS := hid h1
  replace HR := hid h2
  have sE : R < E := by omega
  have sE2 : B ≤ E := by omega
  clear h1 h2 hE
  go_wp2_with fail
  refine (pick_any B _ _ R p3 HR.out (by omega) (by omega) (by omega)).mono ?_
  rintro e w5 ⟨j, rfl, ⟨j0, j1, _⟩, hb5, hr5⟩
  have HS5 := hid (HS.out.but hb5 (by omega))
  clear hb5 HS HR
  go_upto_if 19 with fail
  go_cut [6] (fun s6 wx => ∃ p', Hid (EdSt w R E wx ∧ Rd B wx R p') ∧ p' ≤ p + 57)
  case first =>
    by_cases hj : 0 < j
    · obtain ⟨x, a, c, a2, c2, hX, _⟩ := HS5.out
      obtain ⟨xl, ⟨x0, x1, x2, x3, x4, x5, x6, x7, x8, x9⟩, ⟨f0, f1, f2, f3, f4, f5, f6, f7, f8, f9⟩⟩ := hX
      go_wp2_with fail
      refine (num_new [0, 1, 0, 2] 0 2 (by simp) (by decide) (by decide) B w5 _ R (p3 + 1) hr5 (by omega)).mono ?_
      rintro e w6 ⟨k, rfl, ⟨k0, k2⟩, hb6, hr6⟩
      have hki : i64 k := by unfold i64; omega
      have HS6 := hid ((HS5.out.next (below_alloc _ _)).but hb6 (by omega))
      have HS7 := hid (HS6.out.setVar hki)
      have HR7 := hid (hr6.set (a := ⟨E, 5, none⟩) (by simp; omega) (.int .i64 k))
      clear x0 x1 x2 x3 x4 x5 x6 x7 x8 x9 xl f0 f1 f2 f3 f4 f5 f6 f7 f8 f9 hb6 hr5 hr6 HS5
      obtain ⟨x', a', c', a2', c2', hX, _⟩ := HS6.out
      obtain ⟨xl, ⟨x0, x1, x2, x3, x4, x5, x6, x7, x8, x9⟩, ⟨f0, f1, f2, f3, f4, f5, f6, f7, f8, f9⟩⟩ := hX
      clear HS6
      go_upto_region 4 with fail
      refine wp_gen (fun W => EdSt w R E W ∧ Rd B W R (p3 + 2) ∧ W.cell? ⟨E, 5, none⟩ = some (.int .i64 k)) ⟨HS7.out, HR7.out, World.cell?_setCell_same _ _ _ x5⟩ ?_
      clear x0 x1 x2 x3 x4 x5 x6 x7 x8 x9 xl f0 f1 f2 f3 f4 f5 f6 f7 f8 f9 HS7 HR7
      rintro W7 ⟨h1, h2, h3⟩
      have HS7 := hid h1
      have HR7 := hid h2
      clear h1 h2
      have hW7 := HR7.out.lt
      go_upto_region 5 with fail
      obtain ⟨V1, hV1⟩ : ∃ V1, V1 = W7.heap.size := ⟨_, rfl⟩
      rw [← hV1]
      refine wp_gen (fun W => EdSt w R E W ∧ Rd B W R (p3 + 2) ∧ Box3 W V1 (.int .i64 2) (.int .i64 k) (.slice none 0 0)) ⟨HS7.out.next (below_alloc _ _), HR7.out.next (below_alloc _ _), box3_at hV1⟩ ?_
      clear HS7 HR7 h3
      rintro W8 ⟨h1, h2, b1⟩
      have HS8 := hid h1
      have HR8 := hid h2
      have hV1R : V1 ≠ R := by omega
      clear h1 h2 hV1
      go_upto_region 6 with fail
      obtain ⟨V2, hV2⟩ : ∃ V2, V2 = W8.heap.size := ⟨_, rfl⟩
      rw [← hV2]
      refine wp_gen (fun W => EdSt w R E W ∧ Rd B W R (p3 + 2) ∧ Box3 W V1 (.int .i64 2) (.int .i64 k) (.slice none 0 0) ∧ Box3 W V2 (.int .i64 1) (.int .i64 1) (.slice none 0 0)) ⟨HS8.out.next (below_alloc _ _), HR8.out.next (below_alloc _ _), box3_next (below_alloc _ _) b1, box3_at hV2⟩ ?_
      have hV2R : V2 ≠ R := by have := HR8.out.lt; omega
      clear HS8 HR8 b1 hV2
      rintro W9 ⟨h1, h2, b1, b2⟩
      have HS9 := hid h1
      have HR9 := hid h2
      clear h1 h2
      go_wp2_with fail
      refine (pick_any B _ _ R (p3 + 2) HR9.out (by omega) (by omega) (by omega)).mono ?_
      rintro e wA ⟨m, rfl, ⟨m0, m1, _⟩, hbA, hrA⟩
      have HSA := hid (HS9.out.but hbA (by omega))
      replace b1 := box3_but hbA hV1R b1
      replace b2 := box3_but hbA hV2R b2
      clear hbA HS9 HR9
      go_upto_block 0 with fail
      have hm : m < 4 := m1 (by omega)
      rcases (by omega : m = 0 ∨ m = 1 ∨ m = 2 ∨ m = 3) with rfl | rfl | rfl | rfl
      · go_wp2_with fail
        refine (pick_any B _ _ R (p3 + 3) hrA (by omega) (by omega) (by omega)).mono ?_
        rintro e wB ⟨m, rfl, ⟨m0, m1, _⟩, hbB, hrB⟩
        have hmi : i64 m := by unfold i64; omega
        have HSB := hid (HSA.out.but hbB (by omega))
        have HSC := hid (HSB.out.setVal (leaf_new (E + 1) wB (k := 1) (v := m) (by unfold i64; omega) hmi) (by simp [nodes, nodesL]))
        have HRC := hid (((hrB.set (a := ⟨E, 6, none⟩) (by simp; omega) (.int .i64 1)).set (a := ⟨E, 7, none⟩) (by simp; omega) (.int .i64 m)).set (a := ⟨E, 8, none⟩) (by simp; omega) (.slice none 0 0))
        obtain ⟨x', a', c', a2', c2', hX, _⟩ := HSB.out
        obtain ⟨xl, ⟨x0, x1, x2, x3, x4, x5, x6, x7, x8, x9⟩, ⟨f0, f1, f2, f3, f4, f5, f6, f7, f8, f9⟩⟩ := hX
        clear hbB hrB hrA HSA HSB
        go_wp2_with fail
        go_meet
        exact ⟨_, hid ⟨HSC.out, HRC.out⟩, by omega⟩
      · have ht := two_leaves (W := wA.alloc (.cells #[.int .i64 2, .int .i64 k, .slice none 0 0, .int .i64 1, .int .i64 1, .slice none 0 0] 45)) (b := wA.heap.size) (c := 2) (N := E + 1) (k := 8) (k1 := 2) (v1 := k) (k2 := 1) (v2 := 1) (by unfold i64; omega) (by unfold i64; omega) (by unfold i64; omega) (by unfold i64; omega) (by unfold i64; omega) (row_six wA (.int .i64 2) (.int .i64 k) (.slice none 0 0) (.int .i64 1) (.int .i64 1) (.slice none 0 0) 45) (by obtain ⟨_, _, _, _, _, hX, _⟩ := HSA.out; have := hX.1; omega) (by omega) (by decide)
        have HSC := (HSA.out.next (below_alloc wA (.cells #[.int .i64 2, .int .i64 k, .slice none 0 0, .int .i64 1, .int .i64 1, .slice none 0 0] 45))).setVal ht (by simp [nodes, nodesL])
        have HRC := (((hrA.next (below_alloc wA (.cells #[.int .i64 2, .int .i64 k, .slice none 0 0, .int .i64 1, .int .i64 1, .slice none 0 0] 45))).set (a := ⟨E, 6, none⟩) (by simp; omega) (.int .i64 8)).set (a := ⟨E, 7, none⟩) (by simp; omega) (.int .i64 0)).set (a := ⟨E, 8, none⟩) (by simp; omega) (.slice (some ⟨wA.heap.size, 0, none⟩) 2 2)
        have hX := HSA.out
        obtain ⟨x', a', c', a2', c2', hX, _⟩ := hX
        obtain ⟨xl, ⟨x0, x1, x2, x3, x4, x5, x6, x7, x8, x9⟩, ⟨f0, f1, f2, f3, f4, f5, f6, f7, f8, f9⟩⟩ := hX
        simp only [Tr.kind, Tr.val, Tr.kids] at HSC
        rw [World.setCell_alloc_past _ _ _ _ xl, World.setCell_alloc_past _ _ _ _ (by simpa using xl), World.setCell_alloc_past _ _ _ _ (by simpa using xl)] at HSC HRC
        replace HSC := hid HSC
        replace HRC := hid HRC
        clear ht hrA HSA
        obtain ⟨l1, d0, d1, d2, _⟩ := b1
        obtain ⟨l2, e0, e1, e2, _⟩ := b2
        go_wp2_with fail
        go_meet
        exact ⟨_, hid ⟨HSC.out, HRC.out⟩, by omega⟩
      · have ht := two_leaves (W := wA.alloc (.cells #[.int .i64 1, .int .i64 1, .slice none 0 0, .int .i64 2, .int .i64 k, .slice none 0 0] 45)) (b := wA.heap.size) (c := 2) (N := E + 1) (k := 9) (k1 := 1) (v1 := 1) (k2 := 2) (v2 := k) (by unfold i64; omega) (by unfold i64; omega) (by unfold i64; omega) (by unfold i64; omega) (by unfold i64; omega) (row_six wA (.int .i64 1) (.int .i64 1) (.slice none 0 0) (.int .i64 2) (.int .i64 k) (.slice none 0 0) 45) (by obtain ⟨_, _, _, _, _, hX, _⟩ := HSA.out; have := hX.1; omega) (by omega) (by decide)
        have HSC := (HSA.out.next (below_alloc wA (.cells #[.int .i64 1, .int .i64 1, .slice none 0 0, .int .i64 2, .int .i64 k, .slice none 0 0] 45))).setVal ht (by simp [nodes, nodesL])
        have HRC := (((hrA.next (below_alloc wA (.cells #[.int .i64 1, .int .i64 1, .slice none 0 0, .int .i64 2, .int .i64 k, .slice none 0 0] 45))).set (a := ⟨E, 6, none⟩) (by simp; omega) (.int .i64 9)).set (a := ⟨E, 7, none⟩) (by simp; omega) (.int .i64 0)).set (a := ⟨E, 8, none⟩) (by simp; omega) (.slice (some ⟨wA.heap.size, 0, none⟩) 2 2)
        have hX := HSA.out
        obtain ⟨x', a', c', a2', c2', hX, _⟩ := hX
        obtain ⟨xl, ⟨x0, x1, x2, x3, x4, x5, x6, x7, x8, x9⟩, ⟨f0, f1, f2, f3, f4, f5, f6, f7, f8, f9⟩⟩ := hX
        simp only [Tr.kind, Tr.val, Tr.kids] at HSC
        rw [World.setCell_alloc_past _ _ _ _ xl, World.setCell_alloc_past _ _ _ _ (by simpa using xl), World.setCell_alloc_past _ _ _ _ (by simpa using xl)] at HSC HRC
        replace HSC := hid HSC
        replace HRC := hid HRC
        clear ht hrA HSA
        obtain ⟨l1, d0, d1, d2, _⟩ := b1
        obtain ⟨l2, e0, e1, e2, _⟩ := b2
        go_wp2_with fail
        go_meet
        exact ⟨_, hid ⟨HSC.out, HRC.out⟩, by omega⟩
      · go_wp2_with fail
        refine (form_any wA R B (p3 + 3) hrA (by omega)).mono ?_
        rintro e wB ⟨v, t, pB, rfl, ht, htm, hv, hbB, hrB, hpB⟩
        obtain ⟨at2, nt, rfl⟩ := TrIn_shape ht.any
        have hsA : E < wA.heap.size := by obtain ⟨_, _, _, _, _, hX, _⟩ := HSA.out; exact hX.1
        have HSB := hid (HSA.out.but hbB (by omega))
        have HSC := hid (HSB.out.setVal (ht.mono hsA) htm)
        have HRC := hid (((hrB.set (a := ⟨E, 6, none⟩) (by simp; omega) (.int .i64 t.kind)).set (a := ⟨E, 7, none⟩) (by simp; omega) (.int .i64 t.val)).set (a := ⟨E, 8, none⟩) (by simp; omega) (.slice at2 t.kids.length nt))
        obtain ⟨x', a', c', a2', c2', hX, _⟩ := HSB.out
        obtain ⟨xl, ⟨x0, x1, x2, x3, x4, x5, x6, x7, x8, x9⟩, ⟨f0, f1, f2, f3, f4, f5, f6, f7, f8, f9⟩⟩ := hX
        clear hbB hrB hrA HSA HSB ht
        go_wp2_with fail
        go_meet
        exact ⟨_, hid ⟨HSC.out, HRC.out⟩, by omega⟩
    · have hj2 : ¬ (0 < j) := hj
      have HF := hid HS5.out
      go_wp2_with fail
      go_meet
      exact ⟨p3 + 1, hid ⟨HF.out, hr5⟩, by omega⟩
  case rest =>
    obtain ⟨p', HC, hp'⟩ := hcut
    obtain ⟨h1, h2⟩ := HC.out
    have HS := hid h1
    have HR := hid h2
    clear HC h1 h2 HS5 hr5
    go_wp2_with fail
    refine (pick_any B _ _ R p' HR.out (by omega) (by omega) (by omega)).mono ?_
    rintro e wA ⟨m, rfl, _, hbA, hrA⟩
    have HSA := hid (HS.out.but hbA (by omega))
    clear hbA HS HR
    by_cases hm : m = 0
    · subst hm
      go_wp2_with fail
      refine (num_new [1, -1, 1, -1, 2, -2] (-2) 2 (by simp) (by decide) (by decide) B wA _ R (p' + 1) hrA (by omega)).mono ?_
      rintro e wB ⟨k, rfl, ⟨k0, k2⟩, hbB, hrB⟩
      have hki : i64 k := by unfold i64; omega
      have HSB := hid ((HSA.out.next (below_alloc _ _)).but hbB (by omega))
      have HSC := hid (HSB.out.setSync hki)
      have HRC := hid (hrB.set (a := ⟨E, 9, none⟩) (by simp; omega) (.int .i64 k))
      clear hbB hrB hrA HSA
      obtain ⟨x', a', c', a2', c2', hX, _⟩ := HSB.out
      obtain ⟨xl, ⟨x0, x1, x2, x3, x4, x5, x6, x7, x8, x9⟩, ⟨f0, f1, f2, f3, f4, f5, f6, f7, f8, f9⟩⟩ := hX
      clear HSB
      go_upto_region 16 with fail
      refine wp_gen (fun W => EdSt w R E W ∧ Rd B W R (p' + 2)) ⟨HSC.out, HRC.out⟩ ?_
      clear x0 x1 x2 x3 x4 x5 x6 x7 x8 x9 xl f0 f1 f2 f3 f4 f5 f6 f7 f8 f9 HSC HRC
      rintro W7 ⟨h1, h2⟩
      obtain ⟨q0, q1, q2, q3, r4, l4, m4, q5, q6, q7, r8, l8, m8, q9, ⟨xl, ⟨x0, x1, x2, x3, x4, x5, x6, x7, x8, x9⟩, ⟨f0, f1, f2, f3, f4, f5, f6, f7, f8, f9⟩⟩, ⟨yl, ⟨y0, y1, y2, y3, y4, y5, y6, y7, y8, y9⟩, ⟨g0, g1, g2, g3, g4, g5, g6, g7, g8, g9⟩⟩, hf⟩ := EdSt.done h1 h2 (p := p) (K := 60) (by omega) hB
      replace hf := hid hf
      clear h1 h2
      go_wp2_with fail
      refine bodyPost_ret (v := .agg #[.int .i64 q0, .int .i64 q1, .int .i64 q2, .int .i64 q3, .slice r4 l4 m4, .int .i64 q5, .int .i64 q6, .int .i64 q7, .slice r8 l8 m8, .int .i64 q9]) (by simp [results, Tryd.results25, go_sem, y0, y1, y2, y3, y4, y5, y6, y7, y8, y9]) rfl ?_
      exact hf.out
    · have hm2 : (m == 0) = false := by simpa using hm
      obtain ⟨q0, q1, q2, q3, r4, l4, m4, q5, q6, q7, r8, l8, m8, q9, ⟨xl, ⟨x0, x1, x2, x3, x4, x5, x6, x7, x8, x9⟩, ⟨f0, f1, f2, f3, f4, f5, f6, f7, f8, f9⟩⟩, ⟨yl, ⟨y0, y1, y2, y3, y4, y5, y6, y7, y8, y9⟩, ⟨g0, g1, g2, g3, g4, g5, g6, g7, g8, g9⟩⟩, hf⟩ := EdSt.done HSA.out hrA (p := p) (K := 60) (by omega) hB
      replace hf := hid hf
      clear HSA hrA
      go_wp2_with fail
      refine bodyPost_ret (v := .agg #[.int .i64 q0, .int .i64 q1, .int .i64 q2, .int .i64 q3, .slice r4 l4 m4, .int .i64 q5, .int .i64 q6, .int .i64 q7, .slice r8 l8 m8, .int .i64 q9]) (by simp [results, Tryd.results25, go_sem, y0, y1, y2, y3, y4, y5, y6, y7, y8, y9]) rfl ?_
      exact hf.out
end Go.Proofs.YtgopfjnpjkpelaaDoor
namespace Go.Proofs.YtgopfjnpjkpelaaDoor
open Go.RowKit
set_option linter.unusedVariables false
set_option linter.unusedSimpArgs false

theorem EdC.frame {p q : Nat → Prop} {w w' : World} {M : Int} {e : Ed} {c : List Value} (h : EdC p w M e c) (hp : ∀ b, p b → b < w.heap.size → q b ∧ w'.heap[b]? = w.heap[b]?) : EdC q w' M e c := by
  obtain ⟨a, n, a', n', h1, h2, h3, h4⟩ := h
  exact ⟨a, n, a', n', h1, h2.frame hp, h3, h4⟩
theorem PrC.frame {p q : Nat → Prop} {w w' : World} {e : Pr} {c : List Value} (h : PrC p w e c) (hs : w.heap.size ≤ w'.heap.size) (hp : ∀ b, p b → b < w.heap.size → q b ∧ w'.heap[b]? = w.heap[b]?) : PrC q w' e c := by
  obtain ⟨a, n, h1, h2, h3⟩ := h
  refine ⟨a, n, h1, h2.frame hs hp, fun hne g hg j => ?_⟩
  obtain ⟨a', c', he, _, _, _, hE⟩ := h2
  subst h1
  simp only [List.toArray, Value.agg.injEq] at he
  simp at he
  obtain ⟨rfl, _⟩ := he
  rcases hE with h | ⟨b, o, rfl, hpb, hbl, _⟩
  · exact absurd h hne
  · simp at hg
    subst hg
    rw [World.frozen?_of_block (w := w) (a := ⟨b, j, none⟩) (hp b hpb hbl).2]
    exact h3 hne _ rfl j

/-- a growing row of edges; all of its memory lies behind V -/
def EdsSt (V : Nat) (M : Int) (ve : Value) (eds : List Ed) (W : World) : Prop := ∃ ces, OwnR 47 10 (V + 1) ve ces W ∧ AllR (EdC (fun b => V < b ∧ ve.ownBlock ≠ some b) W M) eds ces
theorem EdsSt.nil (V : Nat) (M : Int) (W : World) : EdsSt V M (.slice none 0 0) [] W := ⟨[], OwnR.nil .., trivial⟩
theorem EdsSt.keep {V : Nat} {M : Int} {ve : Value} {eds : List Ed} {W W' : World} (h : EdsSt V M ve eds W) (hb : ∀ b, V < b → b < W.heap.size → W'.heap[b]? = W.heap[b]?) : EdsSt V M ve eds W' := by
  obtain ⟨ces, h1, h2⟩ := h
  exact ⟨ces, h1.keep fun g _ h1 h2 => hb g h1 h2, h2.mono fun t c h => h.frame fun b hp hl => ⟨hp, hb b hp.1 hl⟩⟩
theorem EdsSt.next {V : Nat} {M : Int} {ve : Value} {eds : List Ed} {W W' : World} (h : EdsSt V M ve eds W) (hb : Below W.heap.size W W') : EdsSt V M ve eds W' := h.keep fun b _ hl => hb.block b hl
theorem EdsSt.but {V R : Nat} {M : Int} {ve : Value} {eds : List Ed} {W W' : World} (h : EdsSt V M ve eds W) (hb : But W R W') (hR : R ≤ V) : EdsSt V M ve eds W' := h.keep fun b h1 hl => hb.block b hl (by omega)
theorem EdsSt.set {V : Nat} {M : Int} {ve : Value} {eds : List Ed} {W : World} (h : EdsSt V M ve eds W) {a : Addr} (ha : a.block ≤ V) (u : Value) : EdsSt V M ve eds (W.setCell a u) := h.keep fun b h1 hl => Below.heap_setCell _ _ _ _ (by omega)
theorem EdsSt.shape {V : Nat} {M : Int} {ve : Value} {eds : List Ed} {W : World} (h : EdsSt V M ve eds W) : ∃ a c, ve = .slice a eds.length c ∧ eds.length ≤ c ∧ c ≤ maxLen ∧ EdsIn (fun b => V < b) W eds a ∧ (eds ≠ [] → ∀ g, a = some g → ∀ j, W.frozen? ⟨g.block, j, none⟩ = false) := by
  obtain ⟨ces, h1, h2⟩ := h
  obtain ⟨a, c, rfl, h3, h4, h5⟩ := h1.shape
  rw [h2.len] at h3 ⊢
  refine ⟨a, c, rfl, h3, h4, ?_⟩
  have h1' := h1
  rw [h2.len] at h1'
  have hlen := h2.len
  refine ⟨eds_of h1' (h2.mono fun t c h => h.frame (q := fun b => V < b) fun b hp hl => ⟨hp.1, rfl⟩) (fun g hg => ?_), fun hne g hg j => ?_⟩
  · subst hg
    exact (h1.blk g rfl).1
  · rcases h5 with h | ⟨b, rfl, _, _, _, h6⟩
    · subst h; exact absurd (List.eq_nil_of_length_eq_zero (by simpa using hlen.symm)) hne
    · simp at hg; subst hg; exact h6 j
theorem EdsSt.blk {V : Nat} {M : Int} {ve : Value} {eds : List Ed} {W : World} (h : EdsSt V M ve eds W) : ∀ g, ve.ownBlock = some g → V + 1 ≤ g ∧ g < W.heap.size := by
  obtain ⟨ces, h1, h2⟩ := h
  exact h1.blk
theorem EdsSt.bnd {V : Nat} {M : Int} {ve : Value} {eds : List Ed} {W : World} (h : EdsSt V M ve eds W) : ∀ e, e ∈ eds → nodes e.guard ≤ M ∧ nodes e.val ≤ M := by
  obtain ⟨ces, h1, h2⟩ := h
  intro e he
  obtain ⟨i, hi⟩ := List.mem_iff_getElem?.1 he
  obtain ⟨c, _, hc⟩ := h2.at hi
  obtain ⟨_, _, _, _, _, _, h3, h4⟩ := hc
  exact ⟨h3, h4⟩
/-- one edge more -/
theorem EdsSt.app {V : Nat} {M : Int} {ve v' : Value} {eds : List Ed} {e : Ed} {ces : List (List Value)} {c : List Value} {W W' : World} (h2 : AllR (EdC (fun b => V < b ∧ ve.ownBlock ≠ some b) W M) eds ces) (he : EdC (fun b => V < b ∧ ve.ownBlock ≠ some b) W M e c)
    (h' : OwnR 47 10 (V + 1) v' (ces ++ [c]) W') (hg : W.grownBy W' ve.ownBlock) (hv : v'.ownBlock = ve.ownBlock ∨ v'.ownBlock = some W.heap.size) : EdsSt V M v' (eds ++ [e]) W' := by
  have hf : ∀ b, (V < b ∧ ve.ownBlock ≠ some b) → b < W.heap.size → (V < b ∧ v'.ownBlock ≠ some b) ∧ W'.heap[b]? = W.heap[b]? := fun b hp hl => by
    refine ⟨⟨hp.1, ?_⟩, hg.block b hl (fun e => hp.2 e.symm)⟩
    rcases hv with hv | hv
    · rw [hv]; exact hp.2
    · rw [hv]; intro e; simp at e; omega
  exact ⟨ces ++ [c], h', AllR.snoc (he.frame hf) (h2.mono fun t c h => h.frame hf)⟩

/-- bounds of a system -/
def Bnd (M : Int) (K : Nat) (s : Sy) : Prop := s.init.length ≤ K ∧ s.procs.length ≤ K ∧ ∀ q, q ∈ s.procs → q.edges.length ≤ K ∧ ∀ e, e ∈ q.edges → nodes e.guard ≤ M ∧ nodes e.val ≤ M
/-- a growing row of processes; all of its memory lies behind S -/
def PrsSt (S : Nat) (M : Int) (K : Nat) (vp : Value) (prs : List Pr) (W : World) : Prop := (∃ cps, OwnR 41 2 (S + 1) vp cps W ∧ AllR (PrC (fun b => S < b ∧ vp.ownBlock ≠ some b) W) prs cps) ∧ ∀ q, q ∈ prs → q.edges.length ≤ K ∧ ∀ e, e ∈ q.edges → nodes e.guard ≤ M ∧ nodes e.val ≤ M
theorem PrsSt.nil (V : Nat) (M : Int) (K : Nat) (W : World) : PrsSt V M K (.slice none 0 0) [] W := ⟨⟨[], OwnR.nil .., trivial⟩, by simp⟩
theorem PrsSt.keep {V : Nat} {M : Int} {K : Nat} {ve : Value} {prs : List Pr} {W W' : World} (h : PrsSt V M K ve prs W) (hs : W.heap.size ≤ W'.heap.size) (hb : ∀ b, V < b → b < W.heap.size → W'.heap[b]? = W.heap[b]?) : PrsSt V M K ve prs W' := by
  obtain ⟨⟨ces, h1, h2⟩, h3⟩ := h
  exact ⟨⟨ces, h1.keep fun g _ h1 h2 => hb g h1 h2, h2.mono fun t c h => h.frame hs fun b hp hl => ⟨hp, hb b hp.1 hl⟩⟩, h3⟩
theorem PrsSt.next {V : Nat} {M : Int} {K : Nat} {ve : Value} {prs : List Pr} {W W' : World} (h : PrsSt V M K ve prs W) (hb : Below W.heap.size W W') : PrsSt V M K ve prs W' := h.keep hb.size fun b _ hl => hb.block b hl
theorem PrsSt.but {V R : Nat} {M : Int} {K : Nat} {ve : Value} {prs : List Pr} {W W' : World} (h : PrsSt V M K ve prs W) (hb : But W R W') (hR : R ≤ V) : PrsSt V M K ve prs W' := h.keep hb.size fun b h1 hl => hb.block b hl (by omega)
theorem PrsSt.set {V : Nat} {M : Int} {K : Nat} {ve : Value} {prs : List Pr} {W : World} (h : PrsSt V M K ve prs W) {a : Addr} (ha : a.block ≤ V) (u : Value) : PrsSt V M K ve prs (W.setCell a u) := h.keep (by simp) fun b h1 hl => Below.heap_setCell _ _ _ _ (by omega)
theorem PrsSt.blk {V : Nat} {M : Int} {K : Nat} {ve : Value} {prs : List Pr} {W : World} (h : PrsSt V M K ve prs W) : ∀ g, ve.ownBlock = some g → V + 1 ≤ g ∧ g < W.heap.size := by
  obtain ⟨⟨ces, h1, h2⟩, h3⟩ := h
  exact h1.blk
theorem PrsSt.shape {V : Nat} {M : Int} {K : Nat} {ve : Value} {prs : List Pr} {W : World} (h : PrsSt V M K ve prs W) : ∃ a c, ve = .slice a prs.length c ∧ prs.length ≤ c ∧ c ≤ maxLen ∧ PrsIn (fun b => V < b) W prs a := by
  obtain ⟨⟨ces, h1, h2⟩, _⟩ := h
  obtain ⟨a, c, rfl, h3, h4, h5⟩ := h1.shape
  rw [h2.len] at h3 ⊢
  refine ⟨a, c, rfl, h3, h4, ?_⟩
  have h1' := h1
  rw [h2.len] at h1'
  refine prs_of h1' (h2.mono fun t c h => h.frame (q := fun b => V < b) (Nat.le_refl _) fun b hp hl => ⟨hp.1, rfl⟩) (fun g hg => ?_)
  subst hg
  exact (h1.blk g rfl).1
/-- one process more -/
theorem PrsSt.app {V : Nat} {M : Int} {K : Nat} {ve v' : Value} {prs : List Pr} {q : Pr} {ces : List (List Value)} {c : List Value} {W W' : World} (h2 : AllR (PrC (fun b => V < b ∧ ve.ownBlock ≠ some b) W) prs ces) (h3 : ∀ q, q ∈ prs → q.edges.length ≤ K ∧ ∀ e, e ∈ q.edges → nodes e.guard ≤ M ∧ nodes e.val ≤ M)
    (he : PrC (fun b => V < b ∧ ve.ownBlock ≠ some b) W q c) (h4 : q.edges.length ≤ K ∧ ∀ e, e ∈ q.edges → nodes e.guard ≤ M ∧ nodes e.val ≤ M)
    (h' : OwnR 41 2 (V + 1) v' (ces ++ [c]) W') (hg : W.grownBy W' ve.ownBlock) (hv : v'.ownBlock = ve.ownBlock ∨ v'.ownBlock = some W.heap.size) : PrsSt V M K v' (prs ++ [q]) W' := by
  have hf : ∀ b, (V < b ∧ ve.ownBlock ≠ some b) → b < W.heap.size → (V < b ∧ v'.ownBlock ≠ some b) ∧ W'.heap[b]? = W.heap[b]? := fun b hp hl => by
    refine ⟨⟨hp.1, ?_⟩, hg.block b hl (fun e => hp.2 e.symm)⟩
    rcases hv with hv | hv
    · rw [hv]; exact hp.2
    · rw [hv]; intro e; simp at e; omega
  refine ⟨⟨ces ++ [c], h', AllR.snoc (he.frame hg.size hf) (h2.mono fun t c h => h.frame hg.size hf)⟩, fun r hr => ?_⟩
  rcases List.mem_append.1 hr with h | h
  · exact h3 r h
  · simp at h; subst h; exact h4

/-- a nil row of numbers has room for none -/
def NilI (v : Value) : Prop := ∀ a n c y, v = .agg #[.slice a n c, y] → a = none → c = 0
/-- what a system's drawing comes to -/
def SyPost (B K : Nat) (M : Int) (L : Nat) (R p : Nat) (w : World) (e : Ending) (w' : World) : Prop :=
  ∃ v s p', e = .returned v ∧ SyIn (fun b => w.heap.size < b) w' s v ∧ Bnd M L s ∧ NilI v ∧ But w R w' ∧ Rd B w' R p' ∧ p' ≤ p + K
/-- a system being drawn in its variable S -/
def SySt (w : World) (R S : Nat) (M : Int) (K : Nat) (vp : Value) (prs : List Pr) (W : World) : Prop := ∃ (l : List Int) (a : Option Addr) (c : Nat), l.length = 3 ∧ 3 ≤ c ∧ c ≤ maxLen ∧ BoxP W S (.slice a 3 c) vp ∧ IntsIn (fun b => w.heap.size < b ∧ b < S) W a l ∧
  PrsSt S M K vp prs W ∧ But w R W ∧ BoxP W w.heap.size (.slice none 0 0) (.slice none 0 0) ∧ w.heap.size < S
theorem SySt.next {w W W' : World} {R S : Nat} {M : Int} {K : Nat} {vp : Value} {prs : List Pr} (h : SySt w R S M K vp prs W) (hb : Below W.heap.size W W') : SySt w R S M K vp prs W' := by
  obtain ⟨l, a, c, h1, h2, h3, h4, h5, h6, h7, h8, h9⟩ := h
  exact ⟨l, a, c, h1, h2, h3, boxp_next hb h4, h5.below hb, h6.next hb, h7.next hb, boxp_next hb h8, h9⟩
theorem SySt.but {w W W' : World} {R S : Nat} {M : Int} {K : Nat} {vp : Value} {prs : List Pr} (h : SySt w R S M K vp prs W) (hb : But W R W') (hR : R < w.heap.size) : SySt w R S M K vp prs W' := by
  obtain ⟨l, a, c, h1, h2, h3, h4, h5, h6, h7, h8, h9⟩ := h
  exact ⟨l, a, c, h1, h2, h3, boxp_but hb (by omega) h4, h5.frame hb.size (fun b hp hl => ⟨hp, hb.block b hl (by have := hp.1; omega)⟩), h6.but hb (by omega), h7.trans hb, boxp_but hb (by omega) h8, h9⟩
/-- one process more, and the row stored -/
theorem SySt.app {w W W' : World} {R S : Nat} {M : Int} {K : Nat} {vp v' : Value} {prs : List Pr} {q : Pr} {c : List Value} {ces : List (List Value)} (h : SySt w R S M K vp prs W) (h2 : AllR (PrC (fun b => S < b ∧ vp.ownBlock ≠ some b) W) prs ces) (he : PrC (fun b => S < b ∧ vp.ownBlock ≠ some b) W q c)
    (h4 : q.edges.length ≤ K ∧ ∀ e, e ∈ q.edges → nodes e.guard ≤ M ∧ nodes e.val ≤ M) (hR : R < w.heap.size) (h' : OwnR 41 2 (S + 1) v' (ces ++ [c]) W') (hg : W.grownBy W' vp.ownBlock) (hv : v'.ownBlock = vp.ownBlock ∨ v'.ownBlock = some W.heap.size) :
    SySt w R S M K v' (prs ++ [q]) (W'.setCell ⟨S, 1, none⟩ v') := by
  obtain ⟨l, a, c', h1, i2, i3, i4, i5, h6, h7, h8, h9⟩ := h
  have hblk := h6.blk
  have hk : ∀ b, b ≤ S → b < W.heap.size → W'.heap[b]? = W.heap[b]? := fun b hb hl => hg.block b hl (fun e => by have := (hblk b e.symm).1; omega)
  have hS : ∀ b, b ≠ S → (W'.setCell ⟨S, 1, none⟩ v').heap[b]? = W'.heap[b]? := fun b hb => Below.heap_setCell _ _ _ _ hb
  refine ⟨l, a, c', h1, i2, i3, boxp_set1 (boxp_keep hg.size (hk S (Nat.le_refl _) i4.1) i4) _, i5.frame (by simpa using hg.size) (fun b hp hl => ⟨hp, (hS b (by omega)).trans (hk b (by omega) hl)⟩), (PrsSt.app h2 h6.2 he h4 h' hg hv).set (Nat.le_refl _) _, ?_, boxp_set (boxp_keep hg.size (hk _ (Nat.le_of_lt h9) h8.1) h8) (by simp; omega) _, h9⟩
  exact But.setNew (W := W') ⟨hg.os.trans h7.os, hg.tape.trans h7.tape, hg.output.trans h7.output, Nat.le_trans h7.size hg.size, fun k hk1 hd => (hk k (by omega) (by have := h7.size; omega)).trans (h7.block k hk1 hd)⟩ (Nat.le_of_lt h9) _
theorem SySt.done {w W : World} {R S B K p p' L : Nat} {M : Int} {vp : Value} {prs : List Pr} (h : SySt w R S M L vp prs W) (hr : Rd B W R p') (hp : p' ≤ p + K) (hB : R < B ∧ B ≤ w.heap.size) (hL : 3 ≤ L) (hn : prs.length ≤ L) :
    ∃ a c b n, vp = .slice b prs.length n ∧ BoxP W S (.slice a 3 c) (.slice b prs.length n) ∧ BoxP W w.heap.size (.slice none 0 0) (.slice none 0 0) ∧ SyPost B K M L R p w (.returned (.agg #[.slice a 3 c, .slice b prs.length n])) ((W.setCell ⟨w.heap.size, 0, none⟩ (.slice a 3 c)).setCell ⟨w.heap.size, 1, none⟩ (.slice b prs.length n)) := by
  obtain ⟨l, a, c, h1, h2, h3, h4, h5, h6, h7, h8, h9⟩ := h
  obtain ⟨b, n, rfl, i1, i2, i3⟩ := h6.shape
  have hf : ∀ g, g ≠ w.heap.size → ((W.setCell ⟨w.heap.size, 0, none⟩ (.slice a 3 c)).setCell ⟨w.heap.size, 1, none⟩ (.slice b prs.length n)).heap[g]? = W.heap[g]? := fun g hg =>
    (Below.heap_setCell _ _ _ _ hg).trans (Below.heap_setCell _ _ _ _ hg)
  refine ⟨a, c, b, n, rfl, h4, h8, _, ⟨l, prs⟩, p', rfl, ⟨a, c, b, n, by simp [h1], by simp [h1, h2], h3, h5.frame (by simp) (fun b hp hl => ⟨hp.1, hf b (by omega)⟩), i1, i2, i3.frame (by simp) (fun b hp hl => ⟨by omega, hf b (by omega)⟩)⟩, ⟨by simp [h1, hL], hn, h6.2⟩, fun a' n' c' y he ha => by { simp at he; obtain ⟨⟨rfl, _, rfl⟩, _⟩ := he; subst ha; rcases h5.1 with h | ⟨_, _, h, _⟩; { have := congrArg List.length h; simp [h1] at this }; { cases h } },
    But.setNew (But.setNew h7 (Nat.le_refl _) _) (Nat.le_refl _) _, (hr.set hB.2 _).set hB.2 _, hp⟩
end Go.Proofs.YtgopfjnpjkpelaaDoor
namespace Go.Proofs.YtgopfjnpjkpelaaDoor
open Go.RowKit
set_option linter.unusedVariables false
set_option linter.unusedSimpArgs false

theorem ed_cells_one (x : Ed) (a : Option Addr) (c : Nat) (a' : Option Addr) (c' : Nat) : ∀ u, u ∈ x.cells a c a' c' → u.oneCell' = true := by
  intro u hu
  simp only [Ed.cells, List.mem_cons, List.not_mem_nil, or_false] at hu
  rcases hu with rfl | rfl | rfl | rfl | rfl | rfl | rfl | rfl | rfl | rfl <;> rfl
theorem cells_new (w : World) (cs : List Value) (e : TypeId) (j : Nat) (u : Value) (h : cs[j]? = some u) : (w.alloc (.cells cs.toArray e)).cell? ⟨w.heap.size, j, none⟩ = some u := by
  rw [World.cell?_alloc_new]; simpa using h
/-- an edge just drawn, as ten cells -/
theorem edc_new {W W' : World} {V : Nat} {M : Int} {x : Ed} {a a' : Option Addr} {c c' : Nat} {ve : Value} (h : EdIn (fun b => W.heap.size ≤ b) W' x (.agg (x.cells a c a' c').toArray)) (h1 : nodes x.guard ≤ M) (h2 : nodes x.val ≤ M) (hV : V < W.heap.size) (hv : ∀ g, ve.ownBlock = some g → g < W.heap.size) :
    EdC (fun b => V < b ∧ ve.ownBlock ≠ some b) W' M x (x.cells a c a' c') :=
  ⟨a, c, a', c', rfl, h.frame fun b hb hl => ⟨⟨by have := hb; omega, fun e => by have := hv b e; have := hb; omega⟩, rfl⟩, h1, h2⟩

open Go.Proofs.YtgopfjnpjkpelaaDoor.Expr in
set_option maxRecDepth 100000 in
set_option maxHeartbeats 4000000 in
theorem drawSys_any (w : World) (R B p : Nat) (hr : Rd B w R p) (hp : p + 1000 ≤ 1000000) : Calls Tryd.prog 9 #[.pointer (some ⟨R, 0, none⟩)] w (SyPost B 1000 31 5 R p w) := by
  have hB := hr.lt
  go_enter Tryd.func9, Tryd.ntmps9
  go_wp2_with fail
  refine (pick_any B _ _ R p (hr.next (below_alloc _ _)) (by omega) (by omega) (by omega)).mono ?_
  rintro e w1 ⟨i1, rfl, ⟨i10, i11, _⟩, hb1, hr1⟩
  have hi1 : i64 i1 := by unfold i64; omega
  have c4 := boxp_but hb1 (by omega) (boxp_at (w := w) (a := .slice none 0 0) (b := .slice none 0 0) (t := 26) rfl)
  have B1 : But w R w1 := (But.of (below_alloc w _)).trans hb1
  clear hb1
  go_wp2_with fail
  refine (num_new [0, 0, 1, 3] 0 3 (by simp) (by decide) (by decide) B w1 _ R (p + 1) hr1 (by omega)).mono ?_
  rintro e w2 ⟨i2, rfl, ⟨i20, i21⟩, hb2, hr2⟩
  have hi2 : i64 i2 := by unfold i64; omega
  replace c4 := boxp_but hb2 (by omega) (boxp_next (below_alloc _ _) c4)
  have B2 := (B1.next (below_alloc _ _)).trans hb2
  have s2 := c4.1
  clear hb2 B1 hr1
  have HI : IntsIn (fun b => w.heap.size < b ∧ b < w2.heap.size + 1) (w2.alloc (.cells #[.int .i64 i1, .int .i64 i2, .int .i64 0] 3)) (some ⟨w2.heap.size, 0, none⟩) [i1, i2, 0] :=
    ⟨.inr ⟨w2.heap.size, 0, rfl, ⟨s2, Nat.lt_succ_self _⟩, by simp, fun i v hi => by
      rw [Nat.zero_add, World.cell?_alloc_new]; simpa using hi⟩, fun n hn => by
      simp at hn
      rcases hn with rfl | rfl | rfl
      · exact hi1
      · exact hi2
      · unfold i64; omega⟩
  have HS := hid (show SySt w R (w2.heap.size + 1) 31 5 (.slice none 0 0) [] ((w2.alloc (.cells #[.int .i64 i1, .int .i64 i2, .int .i64 0] 3)).alloc (.cells #[.slice (some ⟨w2.heap.size, 0, none⟩) 3 3, .slice none 0 0] 26)) from
    ⟨[i1, i2, 0], some ⟨w2.heap.size, 0, none⟩, 3, rfl, Nat.le_refl _, by decide, boxp_at (by simp), HI.below (below_alloc _ _), PrsSt.nil _ _ _ _, (B2.next (below_alloc _ _)).next (below_alloc _ _), boxp_next (below_alloc _ _) (boxp_next (below_alloc _ _) c4), by omega⟩)
  have HR := hid ((hr2.next (below_alloc w2 (.cells #[.int .i64 i1, .int .i64 i2, .int .i64 0] 3))).next (below_alloc _ (.cells #[.slice (some ⟨w2.heap.size, 0, none⟩) 3 3, .slice none 0 0] 26)))
  clear HI c4 B2 hr2
  go_upto_region 2 with fail
  obtain ⟨S, hS⟩ : ∃ S, S = w2.heap.size + 1 := ⟨_, rfl⟩
  rw [← hS] at HS
  rw [← hS]
  refine wp_gen (fun W => SySt w R S 31 5 (.slice none 0 0) [] W ∧ Rd B W R (p + 2)) ⟨HS.out, HR.out⟩ ?_
  rintro W0 ⟨h1, h2⟩
  replace HS := hid h1
  replace HR := hid h2
  have sS : R < S := by omega
  have sS2 : B ≤ S := by omega
  clear h1 h2 hS s2 hi1 hi2 i10 i11 i20 i21
  go_wp2_with fail
  refine (num_new [2, 1, 2, 3] 1 3 (by simp) (by decide) (by decide) B W0 _ R (p + 2) HR.out (by omega)).mono ?_
  rintro e w5 ⟨k0, rfl, ⟨k1, k2⟩, hb5, hr5⟩
  have HS5 := hid ((HS.out.next (below_alloc _ _)).but hb5 (by omega))
  have HR5 := hid hr5
  obtain ⟨kn, rfl⟩ := Int.eq_ofNat_of_zero_le (by omega : 0 ≤ k0)
  clear hb5 HS HR hr5
  go_wp2_with fail
  go_loopw [4] (fun i wr => ∃ (k q : Nat) (vp : Value) (prs : List Pr), i = .int .i64 k ∧ Hid (prs.length + k ≤ 3 ∧ q ≤ p + 3 + 310 * prs.length) ∧ Hid (SySt w R S 31 5 vp prs wr) ∧ Hid (Rd B wr R q)) (fun i _ => (intOf i).toNat)
  case atStart => exact ⟨kn, p + 3, _, [], rfl, hid ⟨by simp; omega, by simp⟩, HS5, HR5⟩
  case round =>
    obtain ⟨k, q, vp, prs, rfl, HA, HS, HR⟩ := hrel
    have hA := HA.out
    have q9 : 0 < k → q + 320 ≤ 1000000 := fun h => by omega
    clear hA HS5 HR5
    obtain ⟨wo, hwo⟩ : ∃ wo : World, wo = wr := ⟨_, rfl⟩
    by_cases hlt : 0 < k
    · have hlt2 : (0 : Int) < (k : Int) := by omega
      replace q9 := q9 hlt
      have hk3 : k ≤ 3 := by have := HA.out; omega
      obtain ⟨k', rfl⟩ : ∃ k', k = k' + 1 := ⟨k - 1, by omega⟩
      go_wp2_with fail
      refine (num_new [2, 3, 1, 2] 1 3 (by simp) (by decide) (by decide) B wr _ R q HR.out (by omega)).mono ?_
      rintro e w6 ⟨lc, rfl, ⟨lc1, lc2⟩, hb6, hr6⟩
      have HS6 := hid ((HS.out.next (below_alloc _ _)).but hb6 (by omega))
      have hB6 := hr6.lt
      clear hb6 HS HR
      go_upto_region 6 with fail
      obtain ⟨V, hV⟩ : ∃ V, V = w6.heap.size := ⟨_, rfl⟩
      rw [← hV]
      refine wp_gen (fun W => But w6 R W ∧ Rd B W R (q + 1) ∧ BoxP W V (.int .i64 lc) (.slice none 0 0)) ⟨But.of (below_alloc _ _), hr6.next (below_alloc _ _), boxp_at hV⟩ ?_
      rintro W7 ⟨h1, h2, h3⟩
      have HB7 := hid h1
      have HR7 := hid h2
      have HX7 := hid h3
      have hRV : R < V := by omega
      have hVs : w6.heap.size ≤ V := by omega
      have hSV : S < V := by obtain ⟨_, _, _, _, _, _, hX, _⟩ := HS6.out; have := hX.1; omega
      clear h1 h2 h3 hr6 hV
      go_wp2_with fail
      refine (num_new [3, 4, 2, 5, 1] 1 5 (by simp) (by decide) (by decide) B W7 _ R (q + 1) HR7.out (by omega)).mono ?_
      rintro e w8 ⟨m0, rfl, ⟨m1, m2⟩, hb8, hr8⟩
      have HB8 := hid ((HB7.out.next (below_alloc _ _)).trans hb8)
      have HX8 := hid (boxp_but hb8 (by omega) (boxp_next (below_alloc _ _) HX7.out))
      have HR8 := hid hr8
      obtain ⟨mn, rfl⟩ := Int.eq_ofNat_of_zero_le (by omega : 0 ≤ m0)
      clear hb8 hr8 HB7 HR7 HX7
      go_wp2_with fail
      go_loopw [6] (fun i wi => ∃ (m q2 : Nat) (ve : Value) (eds : List Ed), i = .int .i64 m ∧ Hid (eds.length + m ≤ 5 ∧ q2 ≤ q + 2 + 60 * eds.length) ∧ Hid (BoxP wi V (.int .i64 lc) ve) ∧ Hid (EdsSt V 31 ve eds wi) ∧ Hid (But w6 R wi) ∧ Hid (Rd B wi R q2)) (fun i _ => (intOf i).toNat)
      case atStart => exact ⟨mn, q + 2, _, [], rfl, hid ⟨by simp; omega, by simp⟩, HX8, hid (EdsSt.nil _ _ _), HB8, HR8⟩
      case round =>
        obtain ⟨m, q2, ve, eds, rfl, HA2, HX, HE, HB, HR⟩ := hrel
        have hA2 := HA2.out
        have q29 : 0 < m → q2 + 61 ≤ 1000000 := fun h => by omega
        have el : eds.length ≤ 5 := by omega
        clear hA2 HX8 HB8 HR8
        by_cases hlt3 : 0 < m
        · have hlt4 : (0 : Int) < (m : Int) := by omega
          replace q29 := q29 hlt3
          have hm3 : m ≤ 5 := by have := HA2.out; omega
          obtain ⟨m', rfl⟩ : ∃ m', m = m' + 1 := ⟨m - 1, by omega⟩
          obtain ⟨va, vc, rfl, e1, e2, _⟩ := HE.out.shape
          obtain ⟨el2, hel2⟩ : ∃ n, Hid (n = eds.length) := ⟨_, hid rfl⟩
          obtain ⟨x0, x1, x2, x3, x4⟩ := id HX.out
          go_wp2_with fail
          refine wp_region_ord (C := fun wZ => ∃ xZ, wZ = World.overP _ ([V]) xZ) [0,1,2,3,4] (.one 5 (.one 6 (.one 7 (.one 8 (.fre 9 .done))))) [9] (by kernel_rfl) (by kernel_rfl) (fun d _ _ _ _ h => by cases d <;> exact h) (KeepP.refl _ _).drew.ex ?_; simp only [pick, List.getElem?_cons_succ, List.getElem?_cons_zero]; (repeat (go_big_quiet_step (fail))); refine wpQuiet_nil ?_; simp only [ordW, pick, List.getElem?_cons_succ, List.getElem?_cons_zero]
          have h0 := below_d (Below.refl wr.heap.size wr)
          have K := hid (KeepP.below (S := [V]) h0)
          go_wp2_with fail
          refine (drawEdge_any wr.drew R B q2 lc (HR.out.next h0) (by omega) ⟨by omega, by omega⟩).mono ?_
          rintro e w9 ⟨v, x, p9, rfl, hx, hx1, hx2, hb9, hr9, hp9⟩
          have K9 := hid (K.out.trans (KeepP.but hb9 (by simp; omega)))
          have HX9 := hid (boxp_but hb9 (by omega) (boxp_next h0 HX.out))
          have HE9 := hid ((HE.out.next h0).but hb9 (by omega))
          have HB9 := hid ((HB.out.next h0).trans hb9)
          have sz9 : V < wr.drew.heap.size := by have := HX.out.1; simpa using this
          obtain ⟨a1, c1, a2, c2, rfl, _⟩ := id hx
          have hEC := edc_new (ve := .slice va eds.length vc) (M := 31) hx (by omega) hx2 sz9 (fun g hg => by simpa using (HE.out.blk g hg).2)
          clear hx hb9 h0 HX HE HB HR x0 x1 x2 x3 x4
          have HEC := hid (hEC.frame (w' := w9.alloc (.cells (x.cells a1 c1 a2 c2).toArray 47)) fun b hb hl => ⟨hb, (below_alloc w9 _).block b hl⟩)
          obtain ⟨ces, hO, hAll⟩ := HE9.out.next (below_alloc w9 (.cells (x.cells a1 c1 a2 c2).toArray 47))
          have HAll := hid hAll
          have HBA := hid (HB9.out.next (below_alloc w9 (.cells (x.cells a1 c1 a2 c2).toArray 47)))
          have HXA := hid (boxp_next (below_alloc w9 (.cells (x.cells a1 c1 a2 c2).toArray 47)) HX9.out)
          have HRA := hid (hr9.next (below_alloc w9 (.cells (x.cells a1 c1 a2 c2).toArray 47)))
          have KA := hid (K9.out.trans (KeepP.below (below_alloc w9 (.cells (x.cells a1 c1 a2 c2).toArray 47))))
          have HEB := hid (HE9.out.next (below_alloc w9 (.cells (x.cells a1 c1 a2 c2).toArray 47))).blk
          have hcl := hAll.len
          clear hEC hAll HE9 HB9 HX9 hr9 K
          go_wp2_with fail
          refine ⟨K9.out.ex, ?_⟩
          go_wp2_with fail
          refine ⟨KA.out.ex, ?_⟩
          clear K9
          go_wp2_with (at_builtin; refine wp_app_edge rfl _ _ rfl (V + 1) (.slice va eds.length vc) ces (x.cells a1 c1 a2 c2) w9.heap.size 1 rfl rfl hO (Nat.succ_le_of_lt HXA.out.1) (cells_new _ _ _) rfl (ed_cells_one _ _ _ _ _) (by omega) ?_; intro v' wB hv' hg hbk)
          have HEn := hid (EdsSt.app (ve := .slice va eds.length vc) HAll.out HEC.out hv' hg hbk)
          have hne : ∀ g, (Value.slice va eds.length vc).ownBlock = some g → g ≠ V := fun g h => by have := HEB.out g h; omega
          have HXB := hid (boxp_keep hg.size (hg.block V HXA.out.1 (fun e => hne V e.symm rfl)) HXA.out)
          have HBB := hid (show But w6 R wB from ⟨hg.os.trans HBA.out.os, hg.tape.trans HBA.out.tape, hg.output.trans HBA.out.output, Nat.le_trans HBA.out.size hg.size, fun k hk hd => (hg.block k (Nat.lt_of_lt_of_le hk HBA.out.size) (fun e => by have := (HEB.out k e.symm).1; omega)).trans (HBA.out.block k hk hd)⟩)
          have HRB := hid (HRA.out.grown hg (fun k hk => by have := (HEB.out k hk).1; omega))
          have KB := hid (KA.out.trans (KeepP.grown hg (fun b hb => by simp at hb; subst hb; exact fun e => hne _ e rfl)))
          obtain ⟨a', c', hve, _⟩ := HEn.out.shape
          rw [List.length_append, List.length_singleton] at hve
          subst hve
          have hA2 := HA2.out
          have hA3 := hid (show (eds ++ [x]).length + m' ≤ 5 ∧ p9 ≤ q + 2 + 60 * (eds ++ [x]).length by rw [List.length_append, List.length_singleton]; omega)
          clear hA2 HEB HAll HEC hv' hg hbk hne KA HRA HXA HBA hO hcl
          obtain ⟨x0, x1, x2, x3, x4⟩ := id HXB.out
          go_wp2_with fail
          refine ⟨KB.out.ex, ?_⟩
          go_wp2_with fail
          refine ⟨KB.out.ex, ?_⟩
          go_wp2_with fail
          go_roundw
          case rel => exact ⟨m', p9, _, eds ++ [x], by go_num, hA3, hid (boxp_set1 HXB.out _), hid (HEn.out.set (Nat.le_refl _) _), hid (But.setNew HBB.out (by simp; omega) _), hid (HRB.out.set (by simp; omega) _)⟩
          case measure => simp [intOf, wrap64]
        · obtain rfl : m = 0 := by omega
          clear hlt3
          have HSn := hid (HS6.out.but HB.out (by omega))
          obtain ⟨va, vc, rfl, e1, e2, e3, e4⟩ := HE.out.shape
          obtain ⟨l, ai, ci, l1, l2, l3, hXS, _, hP, _⟩ := HSn.out
          have hP6 : ∀ g, vp.ownBlock = some g → g < w6.heap.size := by obtain ⟨_, _, _, _, _, _, _, _, hP6, _⟩ := HS6.out; exact fun g h => (hP6.blk g h).2
          have hPb := hP.blk
          have hPC : PrC (fun b => S < b ∧ vp.ownBlock ≠ some b) wr ⟨lc, eds⟩ [.int .i64 lc, .slice va eds.length vc] :=
            ⟨va, vc, rfl, ⟨va, vc, rfl, (by show i64 lc; unfold i64; omega), e1, e2, e3.frame (Nat.le_refl _) fun b hb hl => ⟨⟨by have := hb; omega, fun e => by have := hP6 b e; have := hb; omega⟩, rfl⟩⟩, e4⟩
          have HPC := hid (hPC.frame (w' := wr.alloc (.cells #[.int .i64 lc, .slice va eds.length vc] 41)) (by simp) fun b hb hl => ⟨hb, (below_alloc wr _).block b hl⟩)
          obtain ⟨⟨cps, hO, hAll⟩, _⟩ := hP.next (below_alloc wr (.cells #[.int .i64 lc, .slice va eds.length vc] 41))
          have HAll := hid hAll
          have hcl := hAll.len
          have hbd := hid HE.out.bnd
          have HSA := hid (HSn.out.next (below_alloc wr (.cells #[.int .i64 lc, .slice va eds.length vc] 41)))
          have HRA := hid (HR.out.next (below_alloc wr (.cells #[.int .i64 lc, .slice va eds.length vc] 41)))
          have hXA := boxp_next (below_alloc wr (.cells #[.int .i64 lc, .slice va eds.length vc] 41)) hXS
          obtain ⟨pa, pc, rfl, _⟩ := hP.shape
          have hA := HA.out
          have hA2 := HA2.out
          have HAn := hid (show (prs ++ [(⟨lc, eds⟩ : Pr)]).length + k' ≤ 3 ∧ q2 ≤ p + 3 + 310 * (prs ++ [(⟨lc, eds⟩ : Pr)]).length by rw [List.length_append, List.length_singleton]; omega)
          have hpl : prs.length ≤ 100 := by omega
          clear hPC hAll HSn HR HE HB e1 e2 e3 e4 hA hA2 hP l1 l2 l3
          obtain ⟨y0, y1, y2, y3, y4⟩ := id HX.out
          obtain ⟨x0, x1, x2, x3, x4⟩ := id hXS
          clear HX
          go_wp2_with (at_builtin; refine wp_app_proc rfl _ _ rfl (S + 1) (.slice pa prs.length pc) cps [.int .i64 lc, .slice va eds.length vc] wr.heap.size 1 rfl rfl hO (by simp; omega) (cells_new wr [.int .i64 lc, .slice va eds.length vc] _) rfl (by intro u hu; simp at hu; rcases hu with rfl | rfl <;> rfl) (by omega) ?_; intro v' wB hv' hg hbk; have HSB := hid (HSA.out.app HAll.out HPC.out ⟨el, hbd.out⟩ (by omega) hv' hg hbk); have HRB := hid (HRA.out.grown hg (fun k hk => by have := (hPb k hk).1; omega)); have hsh := hv'.shape; obtain ⟨va', vc', hva', _⟩ := hsh; rw [List.length_append, hcl] at hva'; simp only [List.length_singleton] at hva'; subst hva'; obtain ⟨z0, z1, z2, z3, z4⟩ := boxp_keep hg.size (hg.block S hXA.1 (fun e => by have := (hPb S e.symm).1; omega)) hXA; clear hv' hg hbk x0 x1 x2 x3 x4)
          go_roundw
          case rel => exact ⟨k', q2, .slice va' (prs.length + 1) vc', prs ++ [⟨lc, eds⟩], by go_num, HAn, HSB, hid (HRB.out.set (a := ⟨S, 1, none⟩) (by simp; omega) _)⟩
          case measure => simp [intOf, wrap64]
    · obtain rfl : k = 0 := by omega
      have hA := HA.out
      obtain ⟨a, c, b, n, rfl, ⟨x0, x1, x2, x3, x4⟩, ⟨y0, y1, y2, y3, y4⟩, hf⟩ := SySt.done HS.out HR.out (p := p) (K := 1000) (by omega) hB (by omega) (by omega)
      replace hf := hid hf
      clear hA HS HR
      go_wp2_with fail
      refine bodyPost_ret (v := .agg #[.slice a 3 c, .slice b prs.length n]) (by simp [results, Tryd.results9, go_sem, y0, y1, y2, y3, y4]) rfl ?_
      exact hf.out
end Go.Proofs.YtgopfjnpjkpelaaDoor
