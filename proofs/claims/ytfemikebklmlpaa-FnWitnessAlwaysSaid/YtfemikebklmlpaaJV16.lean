/- Joined texts (ExprRandom, SubstX, ExprDraws): contracts and plain laws. Conditions: those of each theorem. -/
import Derived.Test.YtfemikebklmlpaaJV5
import Derived.Test.YtfemikebklmlpaaJV15
set_option linter.unusedVariables false
set_option linter.unusedSimpArgs false
namespace Go.Proofs.Ytfemikebklmlpaa
open Go.RowKit
namespace Expr

def RandT (d : Nat) (K : Nat) (M : Int) : Prop := ∀ (w : World) (R B p : Nat), Rd B w R p → p + K ≤ 1000000 → Calls Try.prog 104 #[.pointer (some ⟨R, 0, none⟩), .int .i64 d] w (DrawPost B K M R p w)

set_option maxRecDepth 100000 in
set_option maxHeartbeats 1000000 in
theorem rand1 : RandT 1 3 1 := by
  intro w R B p hr hp
  have hB := hr.lt
  go_enter Try.func104, Try.ntmps104
  go_wp2_with fail
  refine (pick_any B _ _ R p (hr.next (below_alloc _ _)) (by omega) (by omega) (by omega)).mono ?_
  rintro e w1 ⟨i, rfl, _, hb1, hr1⟩
  have c4 := box3_butx (ButX.but (B := w.heap.size + 1) hb1 (by simp)) (by omega) (by omega) (box3_new w (.int .i64 0) (.int .i64 0) (.slice none 0 0) 123)
  have c4l : w.heap.size < w1.heap.size := c4.1
  have B1 : But w R w1 := (But.of (below_alloc w _)).trans hb1
  clear hb1
  by_cases hi : i = 0
  · subst hi
    go_wp2_with fail
    refine (pick_any B _ _ R (p + 1) hr1 (by omega) (by omega) (by omega)).mono ?_
    rintro e w2 ⟨n, rfl, ⟨hn1, hn2, _⟩, hb2, hr2⟩
    have hn3 := hn2 (by omega)
    have c4 := box3_but hb2 (by omega) c4
    have B2 := B1.trans hb2
    have hf := hid (fun u0 u1 u2 => DrawPost.ret (w := w) (K := 3) (M := 1) (leaf_new (w.heap.size + 1) w2 (k := 1) (v := n) (by unfold i64; omega) (by unfold i64; omega)) (by omega) (by simp [nodes, nodesL]) B2 hr2 (p := p) (by omega) hB.2 u0 u1 u2)
    clear hr2 B2 hb2 hr1 B1
    go_wp2_with fail
    refine bodyPost_ret (v := .agg #[.int .i64 1, .int .i64 n, .slice none 0 0]) (by simp [results, Try.results104, go_sem, c4]) rfl ?_
    exact hf.out _ _ _
  · have hi2 : (i == 0) = false := by simpa using hi
    go_wp2_with fail
    refine (num_new [0, 1, 0, 2] 0 2 (by simp) (by decide) (by decide) B w1 _ R (p + 1) hr1 (by omega)).mono ?_
    rintro e w2 ⟨n, rfl, ⟨hn1, hn2⟩, hb2, hr2⟩
    have c4 := box3_but hb2 (by omega) (box3_next (below_alloc _ _) c4)
    have B2 := (B1.next (below_alloc _ _)).trans hb2
    have hf := hid (fun u0 u1 u2 => DrawPost.ret (w := w) (K := 3) (M := 1) (leaf_new (w.heap.size + 1) w2 (k := 2) (v := n) (by unfold i64; omega) (by unfold i64; omega)) (by omega) (by simp [nodes, nodesL]) B2 hr2 (p := p) (by omega) hB.2 u0 u1 u2)
    clear hr2 B2 hb2 hr1 B1
    go_wp2_with fail
    refine bodyPost_ret (v := .agg #[.int .i64 2, .int .i64 n, .slice none 0 0]) (by simp [results, Try.results104, go_sem, c4]) rfl ?_
    exact hf.out _ _ _

set_option maxRecDepth 100000 in
set_option maxHeartbeats 4000000 in
theorem randS (d K : Nat) (M : Int) (h : RandT d K M) (hM : 1 ≤ M) (hd : 1 ≤ d) (hd3 : d ≤ 10) : RandT (d + 1) (2 * K + 3) (2 * M + 1) := by
  intro w R B p hr hp
  have hB := hr.lt
  have hd2 : ¬ (((d + 1 : Nat) : Int) < 2) := by omega
  go_enter Try.func104, Try.ntmps104
  go_wp2_with fail
  refine (pick_any B _ _ R p (hr.next (below_alloc _ _)) (by omega) (by omega) (by omega)).mono ?_
  rintro e w1 ⟨i, rfl, _, hb1, hr1⟩
  have c4 := box3_butx ((ButX.but (B := w.heap.size + 1) hb1 (by simp))) (by omega) (by omega) (box3_new w (.int .i64 0) (.int .i64 0) (.slice none 0 0) 123)
  have c4l : w.heap.size < w1.heap.size := c4.1
  have B1 : But w R w1 := (But.of (below_alloc w _)).trans hb1
  clear hb1
  by_cases hi : i = 0
  · subst hi
    go_wp2_with fail
    refine (pick_any B _ _ R (p + 1) hr1 (by omega) (by omega) (by omega)).mono ?_
    rintro e w1' ⟨i', rfl, _, hb1, hr2'⟩
    replace c4 := box3_but hb1 (by omega) c4
    have c4l' : w.heap.size < w1'.heap.size := c4.1
    have B1' : But w R w1' := B1.trans hb1
    clear hb1 hr1 B1
    by_cases hi' : i' = 0
    · subst hi'
      go_wp2_with fail
      refine (pick_any B _ _ R (p + 1 + 1) hr2' (by omega) (by omega) (by omega)).mono ?_
      rintro e w2 ⟨n, rfl, ⟨hn1, hn2, _⟩, hb2, hr2⟩
      have hn3 := hn2 (by omega)
      have c4 := box3_but hb2 (by omega) c4
      have B2 := B1'.trans hb2
      have hf := hid (fun u0 u1 u2 => DrawPost.ret (w := w) (K := 2 * K + 3) (M := 2 * M + 1) (leaf_new (w.heap.size + 1) w2 (k := 1) (v := n) (by unfold i64; omega) (by unfold i64; omega)) (by omega) (by simp only [nodes, nodesL]; omega) B2 hr2 (p := p) (by omega) hB.2 u0 u1 u2)
      clear hr2 B2 hb2 hr2' B1'
      go_wp2_with fail
      refine bodyPost_ret (v := .agg #[.int .i64 1, .int .i64 n, .slice none 0 0]) (by simp [results, Try.results104, go_sem, c4]) rfl ?_
      exact hf.out _ _ _
    · have hi2 : (i' == 0) = false := by simpa using hi'
      go_wp2_with fail
      refine (num_new [0, 1, 0, 2] 0 2 (by simp) (by decide) (by decide) B w1' _ R (p + 1 + 1) hr2' (by omega)).mono ?_
      rintro e w2 ⟨n, rfl, ⟨hn1, hn2⟩, hb2, hr2⟩
      have c4 := box3_but hb2 (by omega) (box3_next (below_alloc _ _) c4)
      have B2 := (B1'.next (below_alloc _ _)).trans hb2
      have hf := hid (fun u0 u1 u2 => DrawPost.ret (w := w) (K := 2 * K + 3) (M := 2 * M + 1) (leaf_new (w.heap.size + 1) w2 (k := 2) (v := n) (by unfold i64; omega) (by unfold i64; omega)) (by omega) (by simp only [nodes, nodesL]; omega) B2 hr2 (p := p) (by omega) hB.2 u0 u1 u2)
      clear hr2 B2 hb2 hr2' B1'
      go_wp2_with fail
      refine bodyPost_ret (v := .agg #[.int .i64 2, .int .i64 n, .slice none 0 0]) (by simp [results, Try.results104, go_sem, c4]) rfl ?_
      exact hf.out _ _ _

  · have hi2 : (i == 0) = false := by simpa using hi
    go_wp2_with fail
    refine (num_new [6, 8, 7, 4, 3, 5, 9] 3 9 (by simp) (by decide) (by decide) B w1 _ R (p + 1) hr1 (by omega)).mono ?_
    rintro e w2 ⟨k, rfl, ⟨hk1, hk2⟩, hb2, hr2⟩
    replace c4 := box3_but hb2 (by omega) (box3_next (below_alloc _ _) c4)
    have B2 := (B1.next (below_alloc _ _)).trans hb2
    have c4l2 : w.heap.size < w2.heap.size := c4.1
    clear hb2 hr1 B1
    go_wp2_with fail
    have cF : Box3 (w2.alloc (.cells #[.int .i64 k, .int .i64 0, .slice none 0 0] 123)) w2.heap.size (.int .i64 k) (.int .i64 0) (.slice none 0 0) := box3_new ..
    have hA : 1 ≤ arityV k ∧ arityV k ≤ 2 := by unfold arityV; split; omega; split; omega; split; omega; omega
    refine (arity_any k _).mono ?_
    rintro e w3 ⟨rfl, hb3⟩
    replace cF := box3_next hb3 cF
    replace c4 := box3_next hb3 (box3_next (below_alloc _ _) c4)
    replace B2 := (B2.next (below_alloc _ _)).next hb3
    replace hr2 := (hr2.next (below_alloc _ _)).next hb3
    clear hb3
    generalize arityV k = A at *
    go_wp2_with fail
    go_loopw [7] (fun i wr => ∃ (j : Nat) (u : Value) (l : List Tr) (p1 : Nat), i = .int .i64 (A - j) ∧ l.length = j ∧ ((j = 0 ∧ nodesL l ≤ 0 ∧ p1 ≤ p + 2) ∨ (j = 1 ∧ nodesL l ≤ M ∧ p1 ≤ p + 2 + K) ∨ (j = 2 ∧ nodesL l ≤ 2 * M ∧ p1 ≤ p + 2 + 2 * K)) ∧ (j : Int) ≤ A ∧
      But w R wr ∧ Box3 wr w.heap.size (.int .i64 0) (.int .i64 0) (.slice none 0 0) ∧ Box3 wr w2.heap.size (.int .i64 k) (.int .i64 0) u ∧ OwnRow (w2.heap.size + 1) 123 u l wr ∧ Rd B wr R p1) (fun i _ => (intOf i).toNat)
    case atStart => exact ⟨0, .slice none 0 0, [], p + 2, by simp, rfl, .inl ⟨rfl, by simp [nodesL], by omega⟩, by omega, B2, c4, cF, OwnRow.nil _ _ _, hr2⟩
    case round =>
      clear B2 c4 cF hr2
      obtain ⟨j, u, l, p1, rfl, hl, hbd, hjA, B2, c4, cF, ho, hr2⟩ := hrel
      by_cases hlt : (j : Int) < A
      · have hgt : A - (j : Int) > 0 := by omega
        have cF' := cF
        obtain ⟨q0, q1, q2, q3, q4, q5, q6⟩ := cF'
        have f0 : ∀ x, (wr.overX (w2.heap.size + 1) R x).cell? ⟨w2.heap.size, 2, none⟩ = some u := fun x => by rw [overX_cell _ _ _ _ _ _ (by omega) (by omega)]; exact q3
        go_wp2_with fail
        refine wp_region_tail (C := fun wZ => ∃ xZ, wZ = World.overX _ (w2.heap.size + 1) (R) xZ) [0,1,2,3,4] [5,6,7,8,9] (9) (by kernel_rfl) (by kernel_rfl) (fun d _ _ _ _ h => by cases d <;> exact h) (ButX.refl _ _ _).drew.ex ?_; simp only [pick, List.getElem?_cons_succ, List.getElem?_cons_zero]; (repeat (go_big_quiet_step (fail))); refine wpQuiet_nil ?_; simp only [tailW]
        go_wp2_with fail
        refine (h wr.drew R B p1 (hr2.next (below_d (Below.refl _ _))) (by omega)).mono ?_
        rintro e w4 ⟨v, t, p2, rfl, hn, hnt, hb4, hr4, hp2⟩
        obtain ⟨a1, n1, rfl⟩ := TrIn_shape hn.any
        have x4 : ButX (w2.heap.size + 1) R wr w4 := (ButX.refl _ _ wr).drew.trans (ButX.but hb4 q0)
        go_wp2_with fail
        refine ⟨x4.ex, ?_⟩
        go_wp2_with fail
        have s4 := x4.size
        refine ⟨(x4.next (below_alloc _ _) (by omega)).ex, ?_⟩
        refine wp_append_node rfl (.tmp 37) (.tmp 42) 121 rfl 123 Try.underlying121 rowInfo (by rfl) (by rfl) (by intro x hx; simp at hx; rcases hx with rfl | rfl | rfl <;> rfl) ho q0
          ((Keep.drew wr).trans (Keep.but hb4 (by omega))) (Nat.le_refl _) hn (by omega) ?_
        intro a2 n2 m2 w5 ho5 hb5 _ _
        have x5 : ButX (w2.heap.size + 1) R wr w5 := x4.trans (ButX.ofB hb5)
        have c4' := box3_butx x5 (by omega) (by omega) c4
        have cF' := box3_butx x5 (by omega) (by omega) cF
        have hr5 : Rd B w5 R p2 := hr4.keep hb5.size fun b hb => hb5.block b (by omega)
        have B5 : But w R w5 := ⟨x5.os.trans B2.os, x5.tape.trans B2.tape, x5.output.trans B2.output, Nat.le_trans B2.size x5.size, fun k hk hd => (x5.block k (by omega) hd).trans (B2.block k hk hd)⟩
        have HO := hid ho5
        have hl5 : (l ++ [t]).length = j + 1 := by simp [hl]
        have hn5 : nodesL (l ++ [t]) ≤ nodesL l + M := by rw [nodesL_snoc]; omega
        have hxx := x5.ex
        clear ho ho5 hn hb4 hb5 x4 x5 f0 q0 q1 q2 q3 q4 q5 q6 hr4 hr2 B2 c4 cF
        have cF := cF'
        obtain ⟨q0, q1, q2, q3, q4, q5, q6⟩ := cF'
        refine ⟨hxx, ?_⟩
        go_wp2_with fail
        refine ⟨hxx, ?_⟩
        go_wp2_with fail
        go_roundw
        case rel => exact ⟨j + 1, .slice a2 n2 m2, l ++ [t], p2, by go_num, hl5, by omega, by omega, But.setNew B5 (by simp; omega) _, box3_but (But.set w5 w2.heap.size 2 _) (by omega) c4', box3_set2 cF _, HO.out.keep (Keep.set _ (by simp) _), hr5.set (by simp; omega) _⟩
        case measure => simp [intOf]; omega
      · obtain ⟨a2, n2, m2, rfl⟩ : ∃ a2 n2 m2, u = .slice a2 n2 m2 := by obtain ⟨a2, m2, h2, _⟩ := ho.shape; exact ⟨_, _, _, h2⟩
        have hgt : ¬ (A - (j : Int) > 0) := by omega
        have hf := hid (fun u0 u1 u2 => DrawPost.ret (w := w) (K := 2 * K + 3) (M := 2 * M + 1) (ho.node (k := k) (v := 0) (by unfold i64; omega) (by unfold i64; omega)) (by omega) (by simp only [nodes]; omega) B2 hr2 (p := p) (by omega) hB.2 u0 u1 u2)
        clear hr2 B2 ho
        go_wp2_with fail
        refine bodyPost_ret (v := .agg #[.int .i64 k, .int .i64 0, .slice a2 n2 m2]) (by simp [results, Try.results104, go_sem, c4]) rfl ?_
        exact hf.out _ _ _

theorem rand_any : RandT 4 45 31 := by
  have h2 := randS 1 3 1 rand1 (by omega) (by omega) (by omega)
  have h3 := randS 2 _ _ h2 (by omega) (by omega) (by omega)
  have h4 := randS 3 _ _ h3 (by omega) (by omega) (by omega)
  intro w R B p hr hp
  refine (h4 w R B p hr (by omega)).mono ?_
  rintro e w' ⟨v, t, p', rfl, hn, hm, hb, hr', hp'⟩
  exact ⟨v, t, p', rfl, hn, by omega, hb, hr', by omega⟩
theorem rand_le (d : Int) (h1 : 2 ≤ d) (h2 : d ≤ 4) (w : World) (R B p : Nat) (hr : Rd B w R p) (hp : p + 45 ≤ 1000000) : Calls Try.prog 104 #[.pointer (some ⟨R, 0, none⟩), .int .i64 d] w (DrawPost B 45 31 R p w) := by
  have h2' := randS 1 3 1 rand1 (by omega) (by omega) (by omega)
  have h3' := randS 2 _ _ h2' (by omega) (by omega) (by omega)
  have hw : ∀ {K M w' e}, K ≤ 45 → M ≤ 31 → DrawPost B K M R p w e w' → DrawPost B 45 31 R p w e w' := by
    rintro K M w' e hK hM ⟨v, t, p', rfl, hn, hm, hb, hr', hp'⟩
    exact ⟨v, t, p', rfl, hn, by omega, hb, hr', by omega⟩
  rcases (by omega : d = 2 ∨ d = 3 ∨ d = 4) with rfl | rfl | rfl
  · exact (h2' w R B p hr (by omega)).mono fun e w' h => hw (by omega) (by omega) h
  · exact (h3' w R B p hr (by omega)).mono fun e w' h => hw (by omega) (by omega) h
  · exact rand_any w R B p hr hp

end Expr
end Go.Proofs.Ytfemikebklmlpaa
namespace Go.Proofs.Ytfemikebklmlpaa
open Go.RowKit
namespace Expr

/-- a tree of one's own, and whether there is one -/
def RetT (B : Nat) (t : Tr) (b : Bool) (w : World) (e : Ending) (w' : World) : Prop := ∃ v, e = .returned (.tuple #[v, .bool b]) ∧ NewTr B t v w' ∧ Below w.heap.size w w'
theorem RetT.mk {B : Nat} {t t' : Tr} {b b' : Bool} {v : Value} {w w' : World} (h : NewTr B t' v w') (ht : t = t') (hb : b = b') (hw : Below w.heap.size w w') : RetT B t b w (.returned (.tuple #[v, .bool b'])) w' := ⟨v, by rw [hb], ht ▸ h, hw⟩
def zeroT : Tr := .mk 0 0 []
theorem zero_new (B : Nat) (w : World) : NewTr B zeroT (.agg #[.int .i64 0, .int .i64 0, .slice none 0 0]) w := leaf_new _ _ (by unfold i64; omega) (by unfold i64; omega)

def subOk (x : Int) (t y : Tr) : Bool := exprL.valid t && (exprL.valid y && (inB x 0 2 && exprL.valid (subT x y t)))
def subV (x : Int) (t y : Tr) : Tr := if subOk x t y = true then subT x y t else zeroT
theorem subV_small (x : Int) (t y : Tr) : nodes (subV x t y) ≤ 1000 := by
  unfold subV
  split
  · rename_i h
    simp only [subOk, Bool.and_eq_true] at h
    have := h.2.2.2
    rw [Lang.valid, Bool.and_eq_true, decide_eq_true_eq, exprL_N] at this
    omega
  · simp [zeroT, nodes, nodesL]

end Expr
end Go.Proofs.Ytfemikebklmlpaa
namespace Go.Proofs.Ytfemikebklmlpaa
open Go.RowKit
namespace Expr

/-- what a call of l1Expr comes to: a new, valid tree -/
def FormPost (B : Nat) (R p : Nat) (w : World) (e : Ending) (w' : World) : Prop :=
  ∃ v t p', e = .returned v ∧ NewTr w.heap.size t v w' ∧ nodes t ≤ 31 ∧ exprL.valid t = true ∧ But w R w' ∧ Rd B w' R p' ∧ p' ≤ p + 47
theorem FormPost.ret {B : Nat} {R p p' N : Nat} {w W : World} {t : Tr} {x : Value} (hn : NewTr N t x W) (hN : w.heap.size < N) (hM : nodes t ≤ 31) (hv : exprL.valid t = true) (hb : But w R W) (hr : Rd B W R p') (hp : p' ≤ p + 47) (hB : B ≤ w.heap.size) (u0 u1 u2 : Value) :
    FormPost B R p w (.returned x) (((W.setCell ⟨w.heap.size, 0, none⟩ u0).setCell ⟨w.heap.size, 1, none⟩ u1).setCell ⟨w.heap.size, 2, none⟩ u2) :=
  ⟨x, t, p', rfl, (hn.keep (((Keep.set _ hN _).trans (Keep.set _ hN _)).trans (Keep.set _ hN _))).mono (Nat.le_of_lt hN), hM, hv, But.setNew (But.setNew (But.setNew hb (Nat.le_refl _) _) (Nat.le_refl _) _) (Nat.le_refl _) _,
    ((hr.set hB _).set hB _).set hB _, hp⟩

mutual
theorem sub_nodes : ∀ t, nodes (subT (-1) zeroT t) ≤ nodes t
  | .mk k v kids => by
    simp only [subT]
    split
    · have := nodesL_pos kids; simp only [zeroT, nodes, nodesL]; omega
    · have := subL_nodes kids; simp only [nodes]; omega
theorem subL_nodes : ∀ l, nodesL (subL (-1) zeroT l) ≤ nodesL l
  | [] => by simp [subL]
  | t :: ts => by have := sub_nodes t; have := subL_nodes ts; simp only [subL, nodesL]; omega
end
theorem leaf_valid {n : Int} (h0 : 0 ≤ n) (h2 : n ≤ 2) : exprL.valid (.mk 2 n []) = true := by
  rcases (by omega : n = 0 ∨ n = 1 ∨ n = 2) with rfl | rfl | rfl <;> kernel_rfl
set_option maxRecDepth 100000 in
set_option maxHeartbeats 1000000 in
theorem form_any (w : World) (R B p : Nat) (hr : Rd B w R p) (hp : p + 47 ≤ 1000000) : Calls Try.prog 100 #[.pointer (some ⟨R, 0, none⟩)] w (FormPost B R p w) := by
  have hB := hr.lt
  go_enter Try.func100, Try.ntmps100
  go_wp2_with fail
  refine (num_at [3, 2, 3, 4] 2 4 (by simp) (by decide) (by decide) B _ _ _ R p (by simp) (hr.next (below_alloc _ _)) (by omega)).mono ?_
  rintro e w1 ⟨d, rfl, ⟨hd1, hd2⟩, hb1, hr1⟩
  have c4 := box3_but hb1 (by omega) (box3_next (below_alloc _ _) (box3_new w (.int .i64 0) (.int .i64 0) (.slice none 0 0) 123))
  have B1 := ((But.of (D := R) (below_alloc w _)).next (below_alloc _ _)).trans hb1
  clear hb1
  go_wp2_with fail
  refine (rand_le d hd1 hd2 _ R B (p + 1) hr1 (by omega)).mono ?_
  rintro e w2 ⟨v, t, p2, rfl, hn, hnt, hb2, hr2, hp2⟩
  have hN : w.heap.size < w1.heap.size := c4.1
  replace c4 := box3_but hb2 (by omega) c4
  replace B1 := B1.trans hb2
  obtain ⟨a1, n1, rfl⟩ := TrIn_shape hn.any
  clear hb2 hr1
  go_wp2_with fail
  refine (specValid_any t _ _ (hn.below (below_alloc _ _)).any).mono ?_
  rintro e w3 ⟨rfl, hb3⟩
  replace hn := (hn.below (below_alloc _ _)).below hb3
  replace c4 := box3_next hb3 (box3_next (below_alloc _ _) c4)
  have cf := box3_next hb3 (box3_at (t := 123) (a := .int .i64 t.kind) (b := .int .i64 t.val) (c := .slice a1 t.kids.length n1) (w := w2) rfl)
  replace B1 := (B1.next (below_alloc _ _)).next hb3
  replace hr2 := (hr2.next (below_alloc _ _)).next hb3
  clear hb3
  cases hv : exprL.valid t with
  | true =>
    have hf := hid (fun u0 u1 u2 => FormPost.ret (w := w) hn hN hnt hv B1 hr2 (p := p) (by omega) hB.2 u0 u1 u2)
    clear hr2 B1 hn hv
    go_wp2_with fail
    refine bodyPost_ret (v := .agg #[.int .i64 t.kind, .int .i64 t.val, .slice a1 t.kids.length n1]) (by simp [results, Try.results100, go_sem, c4]) rfl ?_
    exact hf.out _ _ _
  | false =>
    clear hv
    go_wp2_with fail
    refine (pick_any B _ _ R p2 hr2 (by omega) (by omega) (by omega)).mono ?_
    rintro e w4 ⟨n, rfl, ⟨hn1, hn2, _⟩, hb4, hr4⟩
    have hn3 := hn2 (by omega)
    replace c4 := box3_but hb4 (by omega) c4
    replace B1 := B1.trans hb4
    have hf := hid (fun u0 u1 u2 => FormPost.ret (w := w) (leaf_new (w.heap.size + 1) w4 (k := 2) (v := n) (by unfold i64; omega) (by unfold i64; omega)) (by omega) (by simp [nodes, nodesL]) (leaf_valid hn1 (by omega)) B1 hr4 (p := p) (by omega) hB.2 u0 u1 u2)
    clear hr4 B1 hn hb4 hr2
    go_wp2_with fail
    refine bodyPost_ret (v := .agg #[.int .i64 2, .int .i64 n, .slice none 0 0]) (by simp [results, Try.results100, go_sem, c4]) rfl ?_
    exact hf.out _ _ _

/-- what the law's argument comes to -/
def Drawn (w : World) (v : Value) (w' : World) : Prop := ∃ t, NewTr w.heap.size t v w' ∧ nodes t ≤ 32

end Expr
end Go.Proofs.Ytfemikebklmlpaa
