/- The reference's l8Labels: a row of two or three expressions. Conditions: those of each contract. -/
import Derived.Test.YtdmieedfddgmjaaJE14
set_option linter.unusedVariables false
set_option linter.unusedSimpArgs false
namespace Go.Proofs.Ytdmieedfddgmjaa
open Go.RowKit
set_option linter.unusedVariables false
set_option linter.unusedSimpArgs false

theorem but_low {w W W' : World} {R : Nat} (h : But w R W) (k : Below w.heap.size W W') : But w R W' := ⟨k.os.trans h.os, k.tape.trans h.tape, k.output.trans h.output, Nat.le_trans h.size k.size, fun b hb hR => (k.block b hb).trans (h.block b hb hR)⟩
/-- a row of three nodes of one's own: its cells, and each node apart from the row -/
theorem OwnRow.three {B : Nat} {e : TypeId} {v : Value} {t0 t1 t2 : Tr} {w : World} (h : OwnRow B e v [t0, t1, t2] w) : ∃ g c f, v = .slice (some ⟨g, 0, none⟩) 3 c ∧ 3 ≤ c ∧ c ≤ maxLen ∧ B ≤ g ∧ Row w g 9 f ∧
    TrIn (fun b => B ≤ b ∧ b ≠ g) w t0 (.agg #[f 0, f 1, f 2]) ∧ TrIn (fun b => B ≤ b ∧ b ≠ g) w t1 (.agg #[f 3, f 4, f 5]) ∧ TrIn (fun b => B ≤ b ∧ b ≠ g) w t2 (.agg #[f 6, f 7, f 8]) := by
  obtain ⟨xs, bs, h1, h2, h3⟩ := h
  rcases h1.2 with ⟨rfl, h⟩ | ⟨g, cap, cur, rfl, hb, hgg, h4, h5, h6, h7⟩
  · simp at h
  · have hc := h1.cells (g := g) rfl
    have hp : ∀ b, b ∈ bs → B ≤ b ∧ b ≠ g := fun b hb => ⟨(h3 b hb).1, fun e => (h3 b hb).2 (by rw [e]; rfl)⟩
    rw [TrsOwn_cons] at h2
    obtain ⟨b1, c1, rfl, _, i1, h2⟩ := h2
    rw [TrsOwn_cons] at h2
    obtain ⟨b2, c2, rfl, _, i2, h2⟩ := h2
    rw [TrsOwn_cons] at h2
    obtain ⟨b3, c3, rfl, _, i3, h2⟩ := h2
    refine ⟨g, cap, fun i => xs.getD i undef, rfl, h4, h5, hb, ⟨(Array.getElem?_eq_some_iff.1 hgg).1, fun i hi => ?_, fun i => by simp [World.frozen?, hgg]⟩,
      TrOwn_in.1 _ _ _ i1 fun b hb => hp b (by simp [hb]), TrOwn_in.1 _ _ _ i2 fun b hb => hp b (by simp [hb]), TrOwn_in.1 _ _ _ i3 fun b hb => hp b (by simp [hb])⟩
    have hx : xs[i]? = some (xs.getD i undef) := by
      simp only [List.getD_eq_getElem?_getD]
      rw [List.getElem?_eq_getElem (by rw [h1.1]; exact hi)]; rfl
    have := hc i _ hx
    rw [show (⟨g, 0, none⟩ : Addr).add i = ⟨g, i, none⟩ by cases i <;> simp [Addr.add]] at this
    exact this
theorem trs_three {p : Nat → Prop} {w : World} {g : Nat} {f : Nat → Value} {t0 t1 t2 : Tr} (hp : p g) (hr : Row w g 9 f) (h0 : TrIn p w t0 (.agg #[f 0, f 1, f 2])) (h1 : TrIn p w t1 (.agg #[f 3, f 4, f 5])) (h2 : TrIn p w t2 (.agg #[f 6, f 7, f 8])) : TrsIn p w [t0, t1, t2] (some ⟨g, 0, none⟩) :=
  (TrsIn_cons ..).2 ⟨g, 0, _, _, _, rfl, hp, hr.2.1 0 (by omega), hr.2.1 1 (by omega), hr.2.1 2 (by omega), h0,
    (TrsIn_cons ..).2 ⟨g, 3, _, _, _, rfl, hp, hr.2.1 3 (by omega), hr.2.1 4 (by omega), hr.2.1 5 (by omega), h1,
      (TrsIn_cons ..).2 ⟨g, 6, _, _, _, rfl, hp, hr.2.1 6 (by omega), hr.2.1 7 (by omega), hr.2.1 8 (by omega), h2, TrsIn_nil ..⟩⟩⟩
theorem trs_two {p : Nat → Prop} {w : World} {g : Nat} {f : Nat → Value} {t0 t1 : Tr} (hp : p g) (hr : Row w g 9 f) (h0 : TrIn p w t0 (.agg #[f 0, f 1, f 2])) (h1 : TrIn p w t1 (.agg #[f 3, f 4, f 5])) : TrsIn p w [t0, t1] (some ⟨g, 0, none⟩) :=
  (TrsIn_cons ..).2 ⟨g, 0, _, _, _, rfl, hp, hr.2.1 0 (by omega), hr.2.1 1 (by omega), hr.2.1 2 (by omega), h0,
    (TrsIn_cons ..).2 ⟨g, 3, _, _, _, rfl, hp, hr.2.1 3 (by omega), hr.2.1 4 (by omega), hr.2.1 5 (by omega), h1, TrsIn_nil ..⟩⟩
/-- the middle node of three is stored anew -/
theorem three_set {w : World} {B N g : Nat} {f : Nat → Value} {t0 t1 t2 : Tr} {x y z : Value} (hg : B ≤ g) (hN : g < N) (hr : Row w g 9 f) (h0 : TrIn (fun b => B ≤ b ∧ b ≠ g) w t0 (.agg #[f 0, f 1, f 2])) (h2 : TrIn (fun b => B ≤ b ∧ b ≠ g) w t2 (.agg #[f 6, f 7, f 8]))
    (h1 : NewTr N t1 (.agg #[x, y, z]) w) : TrsIn (fun b => B ≤ b) (((w.setCell ⟨g, 3, none⟩ x).setCell ⟨g, 4, none⟩ y).setCell ⟨g, 5, none⟩ z) [t0, t1, t2] (some ⟨g, 0, none⟩) := by
  have hk : ∀ b, b ≠ g → (((w.setCell ⟨g, 3, none⟩ x).setCell ⟨g, 4, none⟩ y).setCell ⟨g, 5, none⟩ z).heap[b]? = w.heap[b]? := fun b hb => by
    rw [Below.heap_setCell _ _ _ _ hb, Below.heap_setCell _ _ _ _ hb, Below.heap_setCell _ _ _ _ hb]
  have hR := ((hr.set (i := 3) (by omega) x).set (i := 4) (by omega) y).set (i := 5) (by omega) z
  obtain ⟨bs, n1, n2⟩ := h1
  have h1' := (TrOwn_in (w := w) (p := fun b => N ≤ b)).1 _ _ _ n1 n2
  exact trs_three hg hR ((TrIn_frame (q := fun b => B ≤ b) fun b hb _ => ⟨hb.1, hk b hb.2⟩).1 _ _ h0) ((TrIn_frame (p := fun b => N ≤ b) (q := fun b => B ≤ b) fun b hb _ => ⟨Nat.le_trans hg (Nat.le_of_lt (Nat.lt_of_lt_of_le hN hb)), hk b (Nat.ne_of_gt (Nat.lt_of_lt_of_le hN hb))⟩).1 _ _ h1') ((TrIn_frame (q := fun b => B ≤ b) fun b hb _ => ⟨hb.1, hk b hb.2⟩).1 _ _ h2)

theorem OwnRow.made0 {B : Nat} {w : World} (e : TypeId) (h : B ≤ w.heap.size) : OwnRow B e (.slice (some ⟨w.heap.size, 0, none⟩) 0 0) [] (w.alloc (.cells #[] e)) :=
  ⟨[], [], ⟨rfl, .inr ⟨w.heap.size, 0, #[], rfl, h, by show (w.heap.push _)[w.heap.size]? = _; simp, Nat.le_refl _, Nat.zero_le _, rfl, rfl⟩⟩, (TrsOwn_nil ..).2 rfl, by simp⟩
/-- what the labels' drawing comes to -/
def LbPost (B K : Nat) (R p : Nat) (w : World) (e : Ending) (w' : World) : Prop :=
  ∃ a ts c p', e = .returned (.slice a (ts : List Tr).length c) ∧ TrsIn (fun b => w.heap.size ≤ b) w' ts a ∧ ts.length ≤ c ∧ c ≤ maxLen ∧ ts.length ≤ 3 ∧ But w R w' ∧ Rd B w' R p' ∧ p' ≤ p + K

namespace Expr
set_option maxRecDepth 100000 in
set_option maxHeartbeats 4000000 in
theorem labels_any (w : World) (R B p : Nat) (hr : Rd B w R p) (hp : p + 100 ≤ 1000000) : Calls Try.prog 28 #[.pointer (some ⟨R, 0, none⟩)] w (LbPost B 40 R p w) := by
  have hB := hr.lt
  go_enter Try.func28, Try.ntmps28
  go_wp2_with fail
  have HO0 := hid (OwnRow.made0 (B := w.heap.size) 43 (Nat.le_refl w.heap.size))
  go_loopw [3, 4] (fun v i wr => ∃ (k q : Nat) (l : List Tr), k ≤ 3 ∧ i = .int .i64 k ∧ Hid (l.length = k) ∧ Hid (q ≤ p + 6 * k) ∧ Hid (OwnRow w.heap.size 43 v l wr) ∧ Hid (But w R wr) ∧ Hid (Rd B wr R q) ∧ Hid (∀ t, t ∈ l → nodes t ≤ 4)) (fun _ i _ => 3 - (intOf i).toNat)
  case atStart => exact ⟨0, p, [], by omega, rfl, hid rfl, hid (by omega), HO0, hid (But.of (below_alloc w _)), hid (hr.next (below_alloc w _)), hid (by simp)⟩
  case round =>
    obtain ⟨k, q, l, hk, rfl, HL, HQ, HO, HB, HR, HN⟩ := hrel
    obtain ⟨wo, hwo⟩ : ∃ wo : World, wo = wr := ⟨_, rfl⟩
    have hq9 := HQ.out
    have hl9 := HL.out
    clear HO0
    by_cases hlt : k < 3
    · have hlt2 : (k : Int) < 3 := by omega
      have hsz := HB.out.size
      go_wp2_with fail
      refine (guard_any wr R B q HR.out (by omega)).mono ?_
      rintro e w1 ⟨x, t, q1, rfl, hn, hm, hb1, hr1, hq1⟩
      obtain ⟨a1, n1, rfl⟩ := TrIn_shape hn.any
      have hbx := box3_at (w := w1) (a := .int .i64 t.kind) (b := .int .i64 t.val) (c := .slice a1 t.kids.length n1) (t := 43) rfl
      have hs1 := hb1.size
      by_cases hkind : t.kind = 1
      · rw [hkind] at hbx
        go_wp2_with fail
        refine (pick_any B 3 _ R q1 (hr1.next (below_alloc _ _)) (by omega) (by omega) (by omega)).mono ?_
        rintro e w2 ⟨j, rfl, ⟨j0, j1, _⟩, hb2, hr2⟩
        have hj3 := j1 (by omega)
        have hbx2 := box3_but (B := w1.heap.size) hb2 (show w1.heap.size ≠ R by omega) hbx
        have hb3 := (hb1.next (below_alloc w1 (.cells #[.int .i64 1, .int .i64 t.val, .slice a1 t.kids.length n1] 43))).trans hb2
        go_upto_region 8 with fail
        refine wp_gen (fun W => Box3 W w1.heap.size (.int .i64 2) (.int .i64 j) (.slice none 0 0) ∧ NewTr wr.heap.size (.mk 2 j []) (.agg #[.int .i64 2, .int .i64 j, .slice none 0 0]) W ∧ But wr R W ∧ Rd B W R (q1 + 1)) ⟨?_, ?_, ?_, ?_⟩ ?_
        · exact box3_set2 (box3_set1 (box3_set0 hbx2 _) _) _
        · exact leaf_new _ _ (by unfold i64; omega) (by unfold i64; omega)
        · exact But.setNew (But.setNew (But.setNew hb3 (by simp; omega) _) (by simp; omega) _) (by simp; omega) _
        · exact ((hr2.set (by simp; omega) _).set (by simp; omega) _).set (by simp; omega) _
        clear hbx2 hb3 hb2 hr2 hbx hb1 hr1 hn
        rintro W ⟨bx, hn', hb', hr'⟩
        obtain ⟨y0, y1, y2, y3, y4, y5, y6⟩ := bx
        go_wp2_with (refine wp_append_node rfl (.tmp 19) (.tmp 21) 32 rfl 43 Try.underlying32 rowInfo (by rfl) (by rfl) (by intro x hx; simp at hx; rcases hx with rfl | rfl | rfl <;> rfl) HO.out (by omega) (Keep.but hb' (by omega)) (Nat.le_refl _) hn' (by omega) ?_)
        intro a2 n2 c2 W3 ho3 hb4 _ _
        have BB := hid (but_low (HB.out.trans hb') hb4)
        have RR := hid (hr'.keep hb4.size fun b hb => hb4.block b (by omega))
        have LL := hid (show ∀ u, u ∈ l ++ [Tr.mk 2 j []] → nodes u ≤ 4 from fun u hu => by
          rcases List.mem_append.1 hu with h | h
          · exact HN.out u h
          · simp at h; subst h; simp [nodes, nodesL])
        have OO := hid ho3
        clear hn' hb' hr' y0 y1 y2 y3 y4 y5 y6 HO HB HR HN ho3 hb4
        go_wp2_with fail
        go_roundw
        case rel => exact ⟨k + 1, q1 + 1, l ++ [Tr.mk 2 j []], by omega, by go_num, hid (by simp; omega), hid (by omega), OO, BB, RR, LL⟩
        case measure => simp [intOf]; omega
      · have hkb : (t.kind == 1) = false := by simpa using hkind
        go_upto_region 8 with fail
        refine wp_gen (fun W => Box3 W w1.heap.size (.int .i64 t.kind) (.int .i64 t.val) (.slice a1 t.kids.length n1) ∧ NewTr wr.heap.size t (.agg #[.int .i64 t.kind, .int .i64 t.val, .slice a1 t.kids.length n1]) W ∧ But wr R W ∧ Rd B W R q1) ⟨hbx, hn.below (below_alloc _ _), hb1.next (below_alloc _ _), hr1.next (below_alloc _ _)⟩ ?_
        clear hbx hb1 hr1 hn
        rintro W ⟨bx, hn', hb', hr'⟩
        obtain ⟨y0, y1, y2, y3, y4, y5, y6⟩ := bx
        go_wp2_with (refine wp_append_node rfl (.tmp 19) (.tmp 21) 32 rfl 43 Try.underlying32 rowInfo (by rfl) (by rfl) (by intro x hx; simp at hx; rcases hx with rfl | rfl | rfl <;> rfl) HO.out (by omega) (Keep.but hb' (by omega)) (Nat.le_refl _) hn' (by omega) ?_)
        intro a2 n2 c2 W3 ho3 hb4 _ _
        have BB := hid (but_low (HB.out.trans hb') hb4)
        have RR := hid (hr'.keep hb4.size fun b hb => hb4.block b (by omega))
        have LL := hid (show ∀ u, u ∈ l ++ [t] → nodes u ≤ 4 from fun u hu => by
          rcases List.mem_append.1 hu with h | h
          · exact HN.out u h
          · simp at h; subst h; exact hm)
        have OO := hid ho3
        clear hn' hb' hr' y0 y1 y2 y3 y4 y5 y6 HO HB HR HN ho3 hb4
        go_wp2_with fail
        go_roundw
        case rel => exact ⟨k + 1, q1, l ++ [t], by omega, by go_num, hid (by simp; omega), hid (by omega), OO, BB, RR, LL⟩
        case measure => simp [intOf]; omega
    · obtain rfl : k = 3 := by omega
      obtain ⟨t0, t1, t2, rfl⟩ : ∃ t0 t1 t2, l = [t0, t1, t2] := by
        match l, hl9 with
        | [a, b, c], _ => exact ⟨a, b, c, rfl⟩
      have hm1 := HN.out t1 (by simp)
      clear hl9 HL hlt hk
      obtain ⟨g, c, f, rfl, hc1, hc2, hgB, hRow, i0, i1, i2⟩ := HO.out.three
      have hsz := HB.out.size
      have hgl := hRow.1
      clear HO HN
      go_wp2_with fail
      refine (pick_any B 40 wr R q HR.out (by omega) (by omega) (by omega)).mono ?_
      rintro e w1 ⟨j, rfl, ⟨j0, j1, _⟩, hb1, hr1⟩
      have hfr : ∀ {t : Tr} {x : Value}, TrIn (fun b => w.heap.size ≤ b ∧ b ≠ g) wr t x → TrIn (fun b => w.heap.size ≤ b ∧ b ≠ g) w1 t x := fun {t x} h => (TrIn_frame fun b hb hl => ⟨hb, hb1.block b hl (by omega)⟩).1 t x h
      replace hRow := hRow.kept hb1.size (hb1.block g hgl (by omega))
      replace i0 := hfr i0
      replace i1 := hfr i1
      replace i2 := hfr i2
      have hB1 := HB.out.trans hb1
      have wk : ∀ {t : Tr} {x : Value}, TrIn (fun b => w.heap.size ≤ b ∧ b ≠ g) w1 t x → TrIn (fun b => w.heap.size ≤ b) w1 t x := fun {t x} h => (TrIn_frame fun b hb hl => ⟨hb.1, rfl⟩).1 t x h
      have F3 := hid (trs_three (p := fun b => w.heap.size ≤ b) hgB hRow (wk i0) (wk i1) (wk i2))
      have F2 := hid (trs_two (p := fun b => w.heap.size ≤ b) hgB hRow (wk i0) (wk i1))
      have HBB := hid hB1
      have HRR := hid hr1
      clear HB HR hfr hb1 wk hB1
      by_cases hj0 : j = 0
      · subst hj0
        clear i0 i1 i2 hRow
        go_wp2_with fail
        go_ret
        exact ⟨_, [t0, t1], c, q + 1, rfl, F2.out, by simp; omega, hc2, by simp, HBB.out, HRR.out, by omega⟩
      by_cases hj1 : j = 1
      · subst hj1
        obtain ⟨y0, y1, y2⟩ := id hRow
        have c3 := y1 3 (by omega)
        have c4 := y1 4 (by omega)
        have c5 := y1 5 (by omega)
        have z3 := y2 3
        have z4 := y2 4
        have z5 := y2 5
        obtain ⟨a3, n3, e3⟩ := TrIn_shape i1
        have i1' := hid (TrIn_any i1)
        rw [e3] at i1'
        have e4 : f 3 = .int .i64 t1.kind ∧ f 4 = .int .i64 t1.val ∧ f 5 = .slice a3 t1.kids.length n3 := by simpa using e3
        rw [e4.1] at c3
        rw [e4.2.1] at c4
        rw [e4.2.2] at c5
        clear y1 y2 e3 e4
        go_wp2_with fail
        refine (mut_any w1 R B (q + 1) t1 _ i1'.out (by omega) HRR.out (by omega)).mono ?_
        rintro e w2 ⟨v2, u2, q2, rfl, hn2, hm2, hb2, hr2, hq2⟩
        obtain ⟨a4, n4, rfl⟩ := TrIn_shape hn2.any
        go_wp2_with fail
        refine (mut_any w2 R B q2 u2 _ hn2.any (by omega) hr2 (by omega)).mono ?_
        rintro e w3 ⟨v3, u3, q3, rfl, hn3, hm3, hb3, hr3, hq3⟩
        obtain ⟨a5, n5, rfl⟩ := TrIn_shape hn3.any
        have hb23 := hb2.trans hb3
        have hRow3 := hRow.kept hb23.size (hb23.block g hRow.1 (by omega))
        have hfr : ∀ {t : Tr} {x : Value}, TrIn (fun b => w.heap.size ≤ b ∧ b ≠ g) w1 t x → TrIn (fun b => w.heap.size ≤ b ∧ b ≠ g) w3 t x := fun {t x} h => (TrIn_frame fun b hb hl => ⟨hb, hb23.block b hl (by omega)⟩).1 t x h
        have h2s := hb2.size
        have hE := hid (three_set hgB (show g < w2.heap.size by omega) hRow3 (hfr i0) (hfr i2) hn3)
        have hBF := hid (But.setNew (But.setNew (But.setNew (HBB.out.trans hb23) (a := ⟨g, 3, none⟩) hgB (.int .i64 u3.kind)) (a := ⟨g, 4, none⟩) hgB (.int .i64 u3.val)) (a := ⟨g, 5, none⟩) hgB (.slice a5 u3.kids.length n5))
        have hRF := hid (((hr3.set (a := ⟨g, 3, none⟩) (show B ≤ g by omega) (.int .i64 u3.kind)).set (a := ⟨g, 4, none⟩) (show B ≤ g by omega) (.int .i64 u3.val)).set (a := ⟨g, 5, none⟩) (show B ≤ g by omega) (.slice a5 u3.kids.length n5))
        obtain ⟨s0, s1, s2⟩ := id hRow3
        have d3 := s1 3 (by omega)
        have d4 := s1 4 (by omega)
        have d5 := s1 5 (by omega)
        have x3 := s2 3
        have x4 := s2 4
        have x5 := s2 5
        clear s1 s2 c3 c4 c5 z3 z4 z5 hfr i0 i1 i2 hRow hRow3 hb23 hb2 hb3 hr2 hr3 hn2 hn3 F2 F3 HBB HRR i1'
        go_wp2_with fail
        go_ret
        exact ⟨_, [t0, u3, t2], c, q3, rfl, hE.out, by simp; omega, hc2, by simp, hBF.out, hRF.out, by omega⟩
      have hk0 : (j == 0) = false := by simpa using hj0
      have hk1 : (j == 1) = false := by simpa using hj1
      clear i0 i1 i2 hRow
      go_wp2_with fail
      go_ret
      exact ⟨_, [t0, t1, t2], c, q + 1, rfl, F3.out, by simp; omega, hc2, by simp, HBB.out, HRR.out, by omega⟩
end Expr
end Go.Proofs.Ytdmieedfddgmjaa
