/- Normal forms of a formula and of its negation; the laws' wpDual on them. Conditions: those of each contract. -/
import Derived.Test.YthjhokifonjeaaaNormFix
import Derived.Test.YthjhokifonjeaaaFormulaSame
import Derived.Test.YthjhokifonjeaaaMore
namespace Go.Proofs.Ythjhokifonjeaaa
open Go.RowKit

def wantK (k : Int) : Int := if k = 6 then 6 else dualK k
inductive DualR : Tr → Tr → Prop where
  | leaf (k v : Int) (h : k = 1 ∨ k = 2) : DualR (.mk k v []) (.mk 3 0 [.mk k v []])
  | not (k v : Int) (h : k = 1 ∨ k = 2) : DualR (.mk 3 0 [.mk k v []]) (.mk k v [])
  | next (a b : Tr) (h : DualR a b) : DualR (.mk 6 0 [a]) (.mk 6 0 [b])
  | two (k : Int) (hk : k = 4 ∨ k = 5 ∨ k = 7 ∨ k = 8) (a b a' b' : Tr) (h : DualR a a') (h' : DualR b b') : DualR (.mk k 0 [a, b]) (.mk (dualK k) 0 [a', b'])

theorem dual_dual {k : Int} (hk : k = 4 ∨ k = 5 ∨ k = 7 ∨ k = 8) : dualK (dualK k) = k := by rcases hk with rfl | rfl | rfl | rfl <;> simp [dualK]
theorem nf_dual : ∀ (t : Tr) (n : Nat) (neg : Bool), formL.shape t n = true → DualR (nfT t neg) (nfT t (!neg)) := Tr.ind fun k v kids ih => by
  intro n neg hs
  obtain ⟨m, h1, h2, h3, h4, h5, h6, h7⟩ := formL.shape_mk hs
  rw [formL_K] at h3
  rw [formL_ar] at h6
  by_cases k0 : k = 1 ∨ k = 2
  · obtain rfl := len0 (by rw [h6, if_pos k0])
    cases neg
    · simp [nfT, nfNode, k0]; exact DualR.leaf k v k0
    · simp [nfT, nfNode, k0]; exact DualR.not k v k0
  by_cases k2 : k = 4 ∨ k = 5 ∨ k = 7 ∨ k = 8
  · obtain ⟨a, b, rfl⟩ := len2 (by rw [h6, if_neg k0, if_pos k2])
    rw [nf_two k2, nf_two k2]
    have ha := ih a (by simp) m neg (h7 a (by simp))
    have hb := ih b (by simp) m neg (h7 b (by simp))
    cases neg
    · exact DualR.two k k2 _ _ _ _ ha hb
    · have := DualR.two (dualK k) (dual_two k2) _ _ _ _ ha hb
      rw [dual_dual k2] at this
      exact this
  obtain ⟨a, rfl⟩ := len1 (by rw [h6, if_neg k0, if_neg k2])
  have ha := h7 a (by simp)
  have hk : k = 3 ∨ k = 6 ∨ k = 9 ∨ k = 10 := by omega
  have htf : DualR truT flsT := DualR.leaf 1 0 (.inl rfl)
  have hft : DualR flsT truT := DualR.not 1 0 (.inl rfl)
  have iha := ih a (by simp) m neg ha
  rcases hk with rfl | rfl | rfl | rfl
  · have := ih a (by simp) m (!neg) ha
    simp [nfT, nfL, nfNode] at this ⊢; exact this
  · simp [nfT, nfL, nfNode]; exact DualR.next _ _ iha
  · cases neg
    · simp [nfT, nfL, nfNode] at iha ⊢; exact DualR.two 7 (by simp) _ _ _ _ htf iha
    · simp [nfT, nfL, nfNode] at iha ⊢; exact DualR.two 8 (by simp) _ _ _ _ hft iha
  · cases neg
    · simp [nfT, nfL, nfNode] at iha ⊢; exact DualR.two 8 (by simp) _ _ _ _ hft iha
    · simp [nfT, nfL, nfNode] at iha ⊢; exact DualR.two 7 (by simp) _ _ _ _ htf iha

def WdT (t u : Tr) : Prop := ∀ (w : World) (x y : Value), TrIn Any w t x → TrIn Any w u y → Calls Try.prog 26 #[x, y] w (Ret (.bool true) w)

set_option maxRecDepth 100000 in
set_option maxHeartbeats 2000000 in
theorem wd_row (k : Int) (hk : k = 4 ∨ k = 5 ∨ k = 6 ∨ k = 7 ∨ k = 8) (v v' : Int) (l m : List Tr) (hlm : l.length = m.length) (h : ∀ i (hi : i < l.length) (hj : i < m.length), WdT l[i] m[i]) : WdT (.mk k v l) (.mk (wantK k) v' m) := by
  intro w x y hx hy
  rw [TrIn_mk] at hx hy
  obtain ⟨a, n, c, rfl, _, _, rfl, hc, hc2, hks⟩ := hx
  obtain ⟨a', n', c', rfl, _, _, rfl, hc', hc2', hks'⟩ := hy
  unfold maxLen at hc2 hc2'
  have hll : ((l.length : Int) != (m.length : Int)) = false := by rw [bne_eq_false_iff_eq]; omega
  have hl1 : l.length ≤ m.length := by omega
  have hl2 : m.length ≤ l.length := by omega
  clear hlm
  rcases hk with rfl | rfl | rfl | rfl | rfl
  all_goals
    simp only [wantK, dualK]
    simp
    go_enter Try.func26, Try.ntmps26
    go_wp2_with fail
    go_loopw [6] (fun i wr => ∃ j : Nat, j ≤ l.length ∧ i = .int .i64 j ∧ Below w.heap.size w wr ∧ Box3 wr w.heap.size (.int .i64 _) (.int .i64 v) (.slice a l.length c) ∧ Box3 wr (w.heap.size + 1) (.int .i64 _) (.int .i64 v') (.slice a' m.length c')) (fun i _ => l.length - (intOf i).toNat)
    case atStart => exact ⟨0, Nat.zero_le _, rfl, (by repeat (first | exact Below.refl _ _ | assumption | refine below_a ?_ _ | refine below_o ?_ _ | refine below_d ?_ | refine below_n ?_ _ | refine below_s ?_ (by first | (simp; done) | (simp; omega) | omega) _)), box3_next (below_alloc _ _) (box3_new ..), box3_at (by simp)⟩
    case round =>
      obtain ⟨j, hj, rfl, B, b0, b1⟩ := hrel
      have bb0 := b0
      have bb1 := b1
      obtain ⟨p0, p1, p2, p3, p4⟩ := b0
      obtain ⟨q0, q1, q2, q3, q4⟩ := b1
      by_cases hlt : j < l.length
      · obtain ⟨b, o, c0, c1, c2, t, rfl, gb, g0, g1, g2, hT⟩ := TrsIn_round hks B hlt
        obtain ⟨b', o', d0, d1, d2, u, rfl, fb, f0, f1, f2, hU⟩ := TrsIn_round hks' B (show j < m.length by omega)
        have hlt2 : (j : Int) < (l.length : Int) := by omega
        have hlt3 : (j : Int) < (m.length : Int) := by omega
        have HC := hid (show WdT t u by
          have e1 := hT.out.2.2.2
          have e2 := hU.out.2.2.2
          rw [List.getElem?_eq_getElem hlt] at e1
          rw [List.getElem?_eq_getElem (show j < m.length by omega)] at e2
          rw [← Option.some.inj e1, ← Option.some.inj e2]
          exact h j hlt (by omega))
        go_wp2_with fail
        refine wp_region_over (by kernel_rfl) (by kernel_rfl) ?_; (repeat (go_big_quiet_step ((go_at_call 26; exact Calls.over (HC.out _ _ _ (TrIn_over hT.out.1 _) (TrIn_over hU.out.1 _)))))); refine wpQuiet_nil ?_; rintro _ ⟨xq, rfl⟩
        replace B := below_next B (over_below wr xq)
        replace bb0 := box3_next (over_below wr xq) bb0
        replace bb1 := box3_next (over_below wr xq) bb1
        go_wp2_with fail
        go_roundw
        case rel => exact ⟨j + 1, by omega, by go_num, B, bb0, bb1⟩
        case measure => simp [intOf]; omega
      · have hlt2 : ¬ ((j : Int) < (l.length : Int)) := by omega
        go_wp2_with fail
        go_ret
        exact Ret.mk rfl B

set_option maxRecDepth 100000 in
set_option maxHeartbeats 2000000 in
theorem wd_leaf (k v : Int) (hk : k = 1 ∨ k = 2) : WdT (.mk k v []) (.mk 3 0 [.mk k v []]) := by
  intro w x y hx hy
  rw [TrIn_mk] at hx hy
  obtain ⟨a, n, c, rfl, hk1, hv, rfl, hc, hc2, hks⟩ := hx
  obtain ⟨a', n', c', rfl, _, _, rfl, hc', hc2', hks'⟩ := hy
  rw [TrsIn_cons] at hks'
  obtain ⟨b, o, d0, d1, d2, rfl, _, f0, f1, f2, hU, _⟩ := hks'
  have hb0 := blt f0
  simp only [List.length_cons, List.length_nil, Nat.zero_add] at hc hc' ⊢
  unfold maxLen at hc2 hc2'
  have HC := hid (fun (w' : World) (M : Below w.heap.size w w') => Formula.same_any (.mk k v []) w' (.mk k v []) (.agg #[d0, d1, d2]) (.agg #[.int .i64 k, .int .i64 v, .slice a 0 c]) (TrIn_below M hU) (by rw [TrIn_mk]; exact ⟨a, 0, c, rfl, hk1, hv, rfl, by omega, by unfold maxLen; omega, TrsIn_nil _ _ _⟩))
  simp only [eqT_refl] at HC
  clear hks hU
  rcases hk with rfl | rfl
  all_goals
    go_enter Try.func26, Try.ntmps26
    go_wp2_with fail
    refine wp_gen (fun W => Below w.heap.size w W ∧ Box3 W w.heap.size (.int .i64 _) (.int .i64 v) (.slice a 0 c) ∧ Box3 W (w.heap.size + 1) (.int .i64 3) (.int .i64 0) (.slice (some ⟨b, o, none⟩) 1 c')) ⟨(by repeat (first | exact Below.refl _ _ | assumption | refine below_a ?_ _ | refine below_o ?_ _ | refine below_d ?_ | refine below_n ?_ _ | refine below_s ?_ (by first | (simp; done) | (simp; omega) | omega) _)), box3_next (below_alloc _ _) (box3_new ..), box3_at (by simp)⟩ ?_
    rintro W ⟨B, b0, b1⟩
    obtain ⟨p0, p1, p2, p3, p4⟩ := b0
    obtain ⟨q0, q1, q2, q3, q4⟩ := b1
    obtain ⟨f0', f1', f2'⟩ := cells_next B hb0 f0 f1 f2
    have hbW : b < W.heap.size := Nat.lt_of_lt_of_le hb0 B.size
    refine wp_region_over (by kernel_rfl) (by kernel_rfl) ?_; (repeat (go_big_quiet_step ((go_at_call 17; exact Calls.over (HC.out _ (below_next B (over_below W _))))))); refine wpQuiet_nil ?_; rintro _ ⟨xq, rfl⟩
    replace B := below_next B (over_below W xq)
    go_wp2_with fail
    go_ret
    exact Ret.mk rfl B

set_option maxRecDepth 100000 in
set_option maxHeartbeats 2000000 in
theorem wd_not (k v : Int) (hk : k = 1 ∨ k = 2) : WdT (.mk 3 0 [.mk k v []]) (.mk k v []) := by
  intro w x y hx hy
  rw [TrIn_mk] at hx hy
  obtain ⟨a', n', c', rfl, _, _, rfl, hc', hc2', hks'⟩ := hx
  obtain ⟨a, n, c, rfl, hk1, hv, rfl, hc, hc2, hks⟩ := hy
  rw [TrsIn_cons] at hks'
  obtain ⟨b, o, d0, d1, d2, rfl, _, f0, f1, f2, hU, _⟩ := hks'
  have hb0 := blt f0
  simp only [List.length_cons, List.length_nil, Nat.zero_add] at hc hc' ⊢
  unfold maxLen at hc2 hc2'
  have HC := hid (fun (w' : World) (M : Below w.heap.size w w') => Formula.same_any (.mk k v []) w' (.mk k v []) (.agg #[d0, d1, d2]) (.agg #[.int .i64 k, .int .i64 v, .slice a 0 c]) (TrIn_below M hU) (by rw [TrIn_mk]; exact ⟨a, 0, c, rfl, hk1, hv, rfl, by omega, by unfold maxLen; omega, TrsIn_nil _ _ _⟩))
  simp only [eqT_refl] at HC
  clear hks hU
  rcases hk with rfl | rfl
  all_goals
    go_enter Try.func26, Try.ntmps26
    go_wp2_with fail
    refine wp_gen (fun W => Below w.heap.size w W ∧ Box3 W w.heap.size (.int .i64 3) (.int .i64 0) (.slice (some ⟨b, o, none⟩) 1 c') ∧ Box3 W (w.heap.size + 1) (.int .i64 _) (.int .i64 v) (.slice a 0 c)) ⟨(by repeat (first | exact Below.refl _ _ | assumption | refine below_a ?_ _ | refine below_o ?_ _ | refine below_d ?_ | refine below_n ?_ _ | refine below_s ?_ (by first | (simp; done) | (simp; omega) | omega) _)), box3_next (below_alloc _ _) (box3_new ..), box3_at (by simp)⟩ ?_
    rintro W ⟨B, b0, b1⟩
    obtain ⟨p0, p1, p2, p3, p4⟩ := b0
    obtain ⟨q0, q1, q2, q3, q4⟩ := b1
    obtain ⟨f0', f1', f2'⟩ := cells_next B hb0 f0 f1 f2
    have hbW : b < W.heap.size := Nat.lt_of_lt_of_le hb0 B.size
    refine wp_region_over (by kernel_rfl) (by kernel_rfl) ?_; (repeat (go_big_quiet_step ((go_at_call 17; exact Calls.over (HC.out _ (below_next B (over_below W _))))))); refine wpQuiet_nil ?_; rintro _ ⟨xq, rfl⟩
    replace B := below_next B (over_below W xq)
    go_wp2_with fail
    go_ret
    exact Ret.mk rfl B

theorem wd_any {t u : Tr} (h : DualR t u) : WdT t u := by
  induction h with
  | leaf k v h => exact wd_leaf k v h
  | not k v h => exact wd_not k v h
  | next a b h ih => exact wd_row 6 (by simp) 0 0 [a] [b] rfl (fun i hi _ => by
      match i, hi with
      | 0, _ => exact ih)
  | two k hk a b a' b' h h' ih ih' =>
    have := wd_row k (by omega) 0 0 [a, b] [a', b'] rfl (fun i hi _ => by
      match i, hi with
      | 0, _ => exact ih
      | 1, _ => exact ih')
    rw [wantK, if_neg (by omega)] at this
    exact this

end Go.Proofs.Ythjhokifonjeaaa
