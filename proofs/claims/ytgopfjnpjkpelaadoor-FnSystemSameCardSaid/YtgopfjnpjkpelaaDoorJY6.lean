/- Joined texts (ExprDraws, More): contracts and plain laws. Conditions: those of each theorem. -/
import Derived.Test.YtgopfjnpjkpelaaDoorJY5
import Derived.Test.YtgopfjnpjkpelaaDoorJY0
set_option linter.unusedVariables false
set_option linter.unusedSimpArgs false
namespace Go.Proofs.YtgopfjnpjkpelaaDoor
open Go.RowKit
namespace Expr

/-- what a call of l1Expr comes to: a new, valid tree -/
def FormPost (B : Nat) (R p : Nat) (w : World) (e : Ending) (w' : World) : Prop :=
  ∃ v t p', e = .returned v ∧ NewTr w.heap.size t v w' ∧ nodes t ≤ 31 ∧ exprL.valid t = true ∧ But w R w' ∧ Rd B w' R p' ∧ p' ≤ p + 47
theorem FormPost.ret {B : Nat} {R p p' N : Nat} {w W : World} {t : Tr} {x : Value} (hn : NewTr N t x W) (hN : w.heap.size < N) (hM : nodes t ≤ 31) (hv : exprL.valid t = true) (hb : But w R W) (hr : Rd B W R p') (hp : p' ≤ p + 47) (hB : B ≤ w.heap.size) (u0 u1 u2 : Value) :
    FormPost B R p w (.returned x) (((W.setCell ⟨w.heap.size, 0, none⟩ u0).setCell ⟨w.heap.size, 1, none⟩ u1).setCell ⟨w.heap.size, 2, none⟩ u2) :=
  ⟨x, t, p', rfl, (hn.keep (((Keep.set _ hN _).trans (Keep.set _ hN _)).trans (Keep.set _ hN _))).mono (Nat.le_of_lt hN), hM, hv, But.setNew (But.setNew (But.setNew hb (Nat.le_refl _) _) (Nat.le_refl _) _) (Nat.le_refl _) _,
    ((hr.set hB _).set hB _).set hB _, hp⟩

mutual
theorem sub_nodes : ∀ t, nodes (subT (-1) zeroT t) ≤ nodes t
  | .mk k v kids => by
    simp only [subT]
    split
    · have := nodesL_pos kids; simp only [zeroT, nodes, nodesL]; omega
    · have := subL_nodes kids; simp only [nodes]; omega
theorem subL_nodes : ∀ l, nodesL (subL (-1) zeroT l) ≤ nodesL l
  | [] => by simp [subL]
  | t :: ts => by have := sub_nodes t; have := subL_nodes ts; simp only [subL, nodesL]; omega
end
theorem leaf_valid {n : Int} (h0 : 0 ≤ n) (h2 : n ≤ 2) : exprL.valid (.mk 2 n []) = true := by
  rcases (by omega : n = 0 ∨ n = 1 ∨ n = 2) with rfl | rfl | rfl <;> kernel_rfl
set_option maxRecDepth 100000 in
set_option maxHeartbeats 1000000 in
theorem form_any (w : World) (R B p : Nat) (hr : Rd B w R p) (hp : p + 47 ≤ 1000000) : Calls Tryd.prog 28 #[.pointer (some ⟨R, 0, none⟩)] w (FormPost B R p w) := by
  have hB := hr.lt
  go_enter Tryd.func28, Tryd.ntmps28
  go_wp2_with fail
  refine (num_at [3, 2, 3, 4] 2 4 (by simp) (by decide) (by decide) B _ _ _ R p (by simp) (hr.next (below_alloc _ _)) (by omega)).mono ?_
  rintro e w1 ⟨d, rfl, ⟨hd1, hd2⟩, hb1, hr1⟩
  have c4 := box3_but hb1 (by omega) (box3_next (below_alloc _ _) (box3_new w (.int .i64 0) (.int .i64 0) (.slice none 0 0) 45))
  have B1 := ((But.of (D := R) (below_alloc w _)).next (below_alloc _ _)).trans hb1
  clear hb1
  go_wp2_with fail
  refine (rand_le d hd1 hd2 _ R B (p + 1) hr1 (by omega)).mono ?_
  rintro e w2 ⟨v, t, p2, rfl, hn, hnt, hb2, hr2, hp2⟩
  have hN : w.heap.size < w1.heap.size := c4.1
  replace c4 := box3_but hb2 (by omega) c4
  replace B1 := B1.trans hb2
  obtain ⟨a1, n1, rfl⟩ := TrIn_shape hn.any
  clear hb2 hr1
  go_wp2_with fail
  refine (specValid_any t _ _ (hn.below (below_alloc _ _)).any).mono ?_
  rintro e w3 ⟨rfl, hb3⟩
  replace hn := (hn.below (below_alloc _ _)).below hb3
  replace c4 := box3_next hb3 (box3_next (below_alloc _ _) c4)
  have cf := box3_next hb3 (box3_at (t := 45) (a := .int .i64 t.kind) (b := .int .i64 t.val) (c := .slice a1 t.kids.length n1) (w := w2) rfl)
  replace B1 := (B1.next (below_alloc _ _)).next hb3
  replace hr2 := (hr2.next (below_alloc _ _)).next hb3
  clear hb3
  cases hv : exprL.valid t with
  | true =>
    have hf := hid (fun u0 u1 u2 => FormPost.ret (w := w) hn hN hnt hv B1 hr2 (p := p) (by omega) hB.2 u0 u1 u2)
    clear hr2 B1 hn hv
    go_wp2_with fail
    refine bodyPost_ret (v := .agg #[.int .i64 t.kind, .int .i64 t.val, .slice a1 t.kids.length n1]) (by simp [results, Tryd.results28, go_sem, c4]) rfl ?_
    exact hf.out _ _ _
  | false =>
    clear hv
    go_wp2_with fail
    refine (pick_any B _ _ R p2 hr2 (by omega) (by omega) (by omega)).mono ?_
    rintro e w4 ⟨n, rfl, ⟨hn1, hn2, _⟩, hb4, hr4⟩
    have hn3 := hn2 (by omega)
    replace c4 := box3_but hb4 (by omega) c4
    replace B1 := B1.trans hb4
    have hf := hid (fun u0 u1 u2 => FormPost.ret (w := w) (leaf_new (w.heap.size + 1) w4 (k := 2) (v := n) (by unfold i64; omega) (by unfold i64; omega)) (by omega) (by simp [nodes, nodesL]) (leaf_valid hn1 (by omega)) B1 hr4 (p := p) (by omega) hB.2 u0 u1 u2)
    clear hr4 B1 hn hb4 hr2
    go_wp2_with fail
    refine bodyPost_ret (v := .agg #[.int .i64 2, .int .i64 n, .slice none 0 0]) (by simp [results, Tryd.results28, go_sem, c4]) rfl ?_
    exact hf.out _ _ _

set_option maxRecDepth 100000 in
set_option maxHeartbeats 2000000 in
theorem mut_any (w : World) (R B p : Nat) (t : Tr) (x : Value) (hx : TrIn Any w t x) (hm : nodes t ≤ 1000) (hr : Rd B w R p) (hp : p + 2 ≤ 1000000) : Calls Tryd.prog 27 #[.pointer (some ⟨R, 0, none⟩), x] w (DrawPost B 2 (nodes t + 1) R p w) := by
  have hB := hr.lt
  have hx0 := hx
  obtain ⟨a, c, rfl⟩ := TrIn_shape hx
  go_enter Tryd.func27, Tryd.ntmps27
  go_wp2_with fail
  refine (sb_any (-1) zeroT (by kernel_rfl) ⟨by simp, trivial⟩ t _ _ _ (TrIn_alloc (TrIn_alloc hx0 _) _) (zero_new 0 _).any (small_nodes t (by omega))).mono ?_
  rintro e w1 ⟨v, rfl, ⟨u, rfl, hi1, hi2, ho⟩, hb1⟩
  have hm1 := sub_nodes t
  clear hx hx0
  generalize subT (-1) zeroT t = t1 at *
  obtain ⟨a2, n2, m2, rfl⟩ : ∃ a2 n2 m2, u = .slice a2 n2 m2 := by obtain ⟨a2, m2, h2, _⟩ := ho.shape; exact ⟨_, _, _, h2⟩
  have B1 := ((But.of (D := R) (below_alloc w _)).next (below_alloc _ _)).next hb1
  have hr1 := ((hr.next (below_alloc _ _)).next (below_alloc _ _)).next hb1
  have c4 := box3_next hb1 (box3_at (w := w.alloc _) (B := w.heap.size + 1) (a := .int .i64 0) (b := .int .i64 0) (c := .slice none 0 0) (t := 45) (by simp))
  clear hb1
  go_wp2_with fail
  refine (pick_any B _ _ R p (hr1.next (below_alloc _ _)) (by omega) (by omega) (by omega)).mono ?_
  rintro e w2 ⟨i, rfl, _, hb2, hr2⟩
  have hsz := c4.1
  replace c4 := box3_but hb2 (by omega) (box3_next (below_alloc _ _) c4)
  have cf := box3_but hb2 (by omega) (box3_at (t := 45) (a := .int .i64 t1.kind) (b := .int .i64 t1.val) (c := .slice a2 n2 m2) (w := w1) rfl)
  simp only [World.size_alloc] at ho
  have K2 : Keep (w.heap.size + 1 + 1) w1 w2 := (Keep.alloc w1 _).trans (Keep.but hb2 (by omega))
  replace B1 := (B1.next (below_alloc _ _)).trans hb2
  clear hb2 hr1
  have hw1 : w1.heap.size < w2.heap.size := cf.1
  by_cases i0 : i = 0
  · subst i0
    go_wp2_with fail
    refine (num_new [0, 10, -1, 1, 2, 3, 4] (-1) 10 (by simp) (by decide) (by decide) B w2 _ R (p + 1) hr2 (by omega)).mono ?_
    rintro e w3 ⟨k, rfl, ⟨hk1, hk2⟩, hb3, hr3⟩
    replace c4 := box3_but hb3 (by omega) (box3_next (below_alloc _ _) c4)
    replace cf := box3_but hb3 (by omega) (box3_next (below_alloc _ _) cf)
    replace B1 := (B1.next (below_alloc _ _)).trans hb3
    have K3 : Keep (w.heap.size + 1 + 1) w1 w3 := (K2.trans (Keep.alloc w2 _)).trans (Keep.but hb3 (by omega))
    have hn := fun v => (ho.keep (K3.setHi (a := ⟨w1.heap.size, 0, none⟩) (Nat.le_refl _) v)).node (k := k) (v := t1.val) (by unfold i64; omega) hi2
    have hf := hid (fun v u0 u1 u2 => DrawPost.at (w := w) (K := 2) (M := nodes t + 1) (b := w.heap.size + 1) (hn v) (by omega) (by omega) (by rw [nodes_kids t1] at hm1; simp only [nodes]; omega) (B1.setNew (a := ⟨w1.heap.size, 0, none⟩) (by simp; omega) v) (hr3.set (a := ⟨w1.heap.size, 0, none⟩) (by simp; omega) v) (p := p) (by omega) hB.2 u0 u1 u2)
    clear hr2 hr3 B1 ho hb3 K2 K3 hn
    go_wp2_with fail
    refine bodyPost_ret (v := .agg #[.int .i64 k, .int .i64 t1.val, .slice a2 n2 m2]) (by simp [results, Tryd.results27, go_sem, c4]) rfl ?_
    exact hf.out _ _ _ _
  have e0 : (i == 0) = false := by simpa using i0
  by_cases i1 : i = 1
  · subst i1
    go_wp2_with fail
    refine (num_new [-1, 4, 3, 9223372036854775807] (-1) 9223372036854775807 (by simp) (by decide) (by decide) B w2 _ R (p + 1) hr2 (by omega)).mono ?_
    rintro e w3 ⟨k, rfl, ⟨hk1, hk2⟩, hb3, hr3⟩
    replace c4 := box3_but hb3 (by omega) (box3_next (below_alloc _ _) c4)
    replace cf := box3_but hb3 (by omega) (box3_next (below_alloc _ _) cf)
    replace B1 := (B1.next (below_alloc _ _)).trans hb3
    have K3 : Keep (w.heap.size + 1 + 1) w1 w3 := (K2.trans (Keep.alloc w2 _)).trans (Keep.but hb3 (by omega))
    have hn := fun v => (ho.keep (K3.setHi (a := ⟨w1.heap.size, 1, none⟩) (Nat.le_refl _) v)).node (k := t1.kind) (v := k) hi1 (by unfold i64; omega)
    have hf := hid (fun v u0 u1 u2 => DrawPost.at (w := w) (K := 2) (M := nodes t + 1) (b := w.heap.size + 1) (hn v) (by omega) (by omega) (by rw [nodes_kids t1] at hm1; simp only [nodes]; omega) (B1.setNew (a := ⟨w1.heap.size, 1, none⟩) (by simp; omega) v) (hr3.set (a := ⟨w1.heap.size, 1, none⟩) (by simp; omega) v) (p := p) (by omega) hB.2 u0 u1 u2)
    clear hr2 hr3 B1 ho hb3 K2 K3 hn
    go_wp2_with fail
    refine bodyPost_ret (v := .agg #[.int .i64 t1.kind, .int .i64 k, .slice a2 n2 m2]) (by simp [results, Tryd.results27, go_sem, c4]) rfl ?_
    exact hf.out _ _ _ _
  have e1 : (i == 1) = false := by simpa using i1
  by_cases i2 : i = 2
  · subst i2
    obtain ⟨D, hD1, hD2, hD3⟩ : ∃ D, D ≠ w1.heap.size ∧ w.heap.size + 1 + 1 ≤ D ∧ ∀ k, (Value.slice a2 n2 m2).ownBlock = some k → k = D := by
      cases hu : (Value.slice a2 n2 m2).ownBlock with
      | none => exact ⟨w2.heap.size, by omega, by omega, by simp⟩
      | some k =>
        obtain ⟨xs, bs, o1, _⟩ := ho
        have := o1.lt k hu
        exact ⟨k, by omega, this.1, by simp⟩
    have hl : t1.kids.length ≤ 1048576 := by have := nodes_kids t1; have := len_nodes t1.kids; omega
    have hleaf := leaf_new w2.heap.size w2 (k := 1) (v := 0) (by unfold i64; omega) (by unfold i64; omega)
    have cf' := cf
    obtain ⟨q0, q1, q2, q3, q4, q5, q6⟩ := cf'
    go_wp2_with (refine wp_append_node rfl (.tmp 26) (.tmp 28) 43 rfl 45 Tryd.underlying43 rowInfo (by rfl) (by rfl) (by intro x hx; simp at hx; rcases hx with rfl | rfl | rfl <;> rfl) ho (by omega) K2 (Nat.le_of_lt hw1) hleaf hl ?_)
    intro a5 n5 m5 w5 ho5 hb5 hbD hav
    have B52 := hbD D hD3
    have c4' := box3_but B52 (by omega) c4
    have cf' := box3_but B52 (by omega) cf
    have hr5 : Rd B w5 R (p + 1) := hr2.keep hb5.size fun b hb => hb5.block b (by omega)
    have B5 : But w R w5 := ⟨B52.os.trans B1.os, B52.tape.trans B1.tape, B52.output.trans B1.output, Nat.le_trans B1.size B52.size, fun k hk hd => (B52.block k (by have := B1.size; omega) (by omega)).trans (B1.block k hk hd)⟩
    have hs5 := hb5.size
    have hn := fun v => (hav w1.heap.size 2 v (Nat.le_refl _) hw1).node hi1 hi2
    have hf := hid (fun v u0 u1 u2 => DrawPost.at (w := w) (K := 2) (M := nodes t + 1) (b := w.heap.size + 1) (hn v) (by omega) (by omega) (by rw [nodes_kids t1] at hm1; simp only [nodes, nodesL_snoc, nodesL]; omega) (B5.setNew (a := ⟨w1.heap.size, 2, none⟩) (by simp; omega) v) (hr5.set (a := ⟨w1.heap.size, 2, none⟩) (by simp; omega) v) (p := p) (by omega) hB.2 u0 u1 u2)
    clear hr2 hr5 B1 B5 ho ho5 hb5 hbD hav K2 B52 hn c4 cf q0 q1 q2 q3 q4 q5 q6
    have cf := cf'
    have c4 := c4'
    obtain ⟨q0, q1, q2, q3, q4, q5, q6⟩ := cf'
    go_wp2_with fail
    refine bodyPost_ret (v := .agg #[.int .i64 t1.kind, .int .i64 t1.val, .slice a5 n5 m5]) (by simp [results, Tryd.results27, go_sem, c4]) rfl ?_
    exact hf.out _ _ _ _
  have e2 : (i == 2) = false := by simpa using i2
  by_cases i3 : i = 3
  · subst i3
    have hf := hid (fun u0 u1 u2 => DrawPost.at (w := w) (K := 2) (M := nodes t + 1) (b := w.heap.size + 1) (leaf_new (w.heap.size + 1 + 1) w2 (k := 0) (v := 0) (by unfold i64; omega) (by unfold i64; omega)) (by omega) (by omega) (by have := nodes_pos t; simp only [nodes, nodesL]; omega) B1 hr2 (p := p) (by omega) hB.2 u0 u1 u2)
    clear hr2 B1 ho K2
    go_wp2_with fail
    refine bodyPost_ret (v := .agg #[.int .i64 0, .int .i64 0, .slice none 0 0]) (by simp [results, Tryd.results27, go_sem, c4]) rfl ?_
    exact hf.out _ _ _
  have e3 : (i == 3) = false := by simpa using i3
  have hn := (ho.keep K2).node hi1 hi2
  have hf := hid (fun u0 u1 u2 => DrawPost.at (w := w) (K := 2) (M := nodes t + 1) (b := w.heap.size + 1) hn (by omega) (by omega) (by rw [nodes_kids t1] at hm1; simp only [nodes]; omega) B1 hr2 (p := p) (by omega) hB.2 u0 u1 u2)
  clear hr2 B1 ho K2 hn
  go_wp2_with fail
  refine bodyPost_ret (v := .agg #[.int .i64 t1.kind, .int .i64 t1.val, .slice a2 n2 m2]) (by simp [results, Tryd.results27, go_sem, c4]) rfl ?_
  exact hf.out _ _ _

/-- what the law's argument comes to -/
def Drawn (w : World) (v : Value) (w' : World) : Prop := ∃ t, NewTr w.heap.size t v w' ∧ nodes t ≤ 32

end Expr
end Go.Proofs.YtgopfjnpjkpelaaDoor
namespace Go.Proofs.YtgopfjnpjkpelaaDoor
open Go.RowKit

/-- of the world where the walk stands only this is kept -/
theorem wp_gen {P : Program} {C : Code} {Q : Exit → Act → World → Prop} {a : Act} {w0 : World} (R : World → Prop) (h0 : R w0) (h : ∀ W, R W → C.wp P Q a W) : C.wp P Q a w0 := h _ h0
/-- three cells of an old node, in a later world -/
theorem cells_next {w W : World} (B : Below w.heap.size w W) {b o : Nat} {c0 c1 c2 : Value} (hb : b < w.heap.size) (g0 : w.cell? ⟨b, o, none⟩ = some c0) (g1 : w.cell? ⟨b, o + 1, none⟩ = some c1) (g2 : w.cell? ⟨b, o + 2, none⟩ = some c2) :
    W.cell? ⟨b, o, none⟩ = some c0 ∧ W.cell? ⟨b, o + 1, none⟩ = some c1 ∧ W.cell? ⟨b, o + 2, none⟩ = some c2 :=
  ⟨(B.cell (p := ⟨b, o, none⟩) hb).trans g0, (B.cell (p := ⟨b, o + 1, none⟩) hb).trans g1, (B.cell (p := ⟨b, o + 2, none⟩) hb).trans g2⟩

end Go.Proofs.YtgopfjnpjkpelaaDoor
