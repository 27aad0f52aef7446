/- Subformulas, of the program and of the reference: what it returns, for every formula. Conditions: those of each contract. -/
import Derived.Test.YthjhokifonjeaaaVisX
import Derived.Test.YthjhokifonjeaaaSubSpec2
import Derived.Test.YthjhokifonjeaaaRowNew
import Derived.Test.YthjhokifonjeaaaFormulaImplN
namespace Go.Proofs.Ythjhokifonjeaaa
open Go.RowKit
namespace Formula

theorem nodesL_end : ∀ (l : List Tr) (t : Tr), nodesL (l ++ [t]) = nodesL l + nodes t
  | [], t => by simp [nodesL]
  | u :: us, t => by rw [List.cons_append]; simp only [nodesL]; rw [nodesL_end us t]; omega
mutual
theorem subsT_nodes : ∀ (t : Tr) (acc : List Tr), nodes t ≤ 12 → nodesL (subsT acc t) ≤ nodesL acc + 12 * nodes t
  | .mk k v kids, acc, hn => by
    simp only [nodes] at hn
    have h := subsL_nodes kids acc (by omega)
    simp only [subsT, nodes]
    split
    · rw [nodesL_end]; simp only [nodes]; omega
    · omega
theorem subsL_nodes : ∀ (l : List Tr) (acc : List Tr), nodesL l ≤ 12 → nodesL (subsL acc l) ≤ nodesL acc + 12 * nodesL l
  | [], acc, _ => by simp [subsL, nodesL]
  | t :: ts, acc, hn => by
    have p1 := nodes_pos t
    have p2 := nodesL_pos ts
    simp only [nodesL] at hn
    have h1 := subsT_nodes t acc (by omega)
    have h2 := subsL_nodes ts (subsT acc t) (by omega)
    simp only [subsL, nodesL]
    omega
end
theorem subsV_nodes (t : Tr) : nodesL (subsV t) ≤ 1000000 := by
  unfold subsV
  split
  · rename_i hv
    have hn : nodes t ≤ 12 := by
      rw [Lang.valid, Bool.and_eq_true, decide_eq_true_eq, formL_N] at hv
      exact hv.2
    have := subsT_nodes t [] hn
    simp only [nodesL] at this
    omega
  · simp [nodesL]

@[go_sem] theorem store_func (P : Program) (w : World) (a : Addr) (m : Mode) (fn : Fn) (first captured : Array Value) : (store a (.func fn first captured) m).run P w = stored P w a (.func fn first captured) m := run_store P w a _ m rfl
theorem specSubsR_any (t : Tr) (w : World) (x : Value) (hx : TrIn Any w t x) (hs : Small t) : Calls Try.prog 16 #[x] w (RetP (NewRow w.heap.size (subsV t)) w) :=
  (specSubs_any t w x hx hs).mono fun e w' ⟨v, h1, h2, h3⟩ => ⟨v, h1, OwnRow.new h2, h3⟩

set_option maxRecDepth 100000 in
set_option maxHeartbeats 1000000 in
theorem subs_own (t : Tr) (w : World) (x : Value) (hx : TrIn Any w t x) (hs : Small t) (hn : nodes t ≤ 12) : Calls Try.prog 46 #[x] w (RetP (NewRow w.heap.size (subsT [] t)) w) := by
  have hx0 := hx
  obtain ⟨a, c, rfl⟩ := TrIn_shape hx
  go_enter Try.func46, Try.ntmps46
  go_wp2_with fail
  have bV : Box1 (((w.alloc (.cells #[.int .i64 t.kind, .int .i64 t.val, .slice a t.kids.length c] 25)).alloc (.cells #[.slice none 0 0] 23)).alloc (.cells #[visClo (w.heap.size + 1 + 1) (w.heap.size + 1)] 82)) (w.heap.size + 1 + 1) (visClo (w.heap.size + 1 + 1) (w.heap.size + 1)) := box1_at (by simp)
  have hlen : (([] : List Tr).length : Int) + nodes t ≤ 1000 := by simp; omega
  refine (vis_any t (w.heap.size + 1 + 1 + 1) w.heap.size (w.heap.size + 1 + 1) (w.heap.size + 1) _ [] (.slice none 0 0) _ (OwnRow.nil _ _ _) (by simp) (by omega) (by omega) (by omega) (by omega) bV (box1_next (below_alloc _ _) (box1_at (by simp))) (by omega) (TrIn_alloc (TrIn_alloc (TrIn_alloc (TrIn_old hx0) _) _) _) hlen hs).mono ?_
  rintro e w1 ⟨v', rfl, ho, bO, hoff, _⟩
  obtain ⟨a2, c2, rfl, hc1, hc2⟩ := OwnRow.shape ho
  have hn := hid (OwnRow.new ho).clip.1
  have hB : Below w.heap.size w w1 := ⟨hoff.os, hoff.tape, hoff.output, by have := hoff.size; simp at this; omega, fun b hb => by
    rw [hoff.block b (by simp; omega) (by omega) (by simp [Value.ownBlock]), (below_alloc _ _).block b (by simp; omega), (below_alloc _ _).block b (by simp; omega), (below_alloc _ _).block b hb]⟩
  obtain ⟨o0, o1, o2⟩ := bO
  clear ho hoff bV
  go_wp2_with fail
  refine (clip_any a2 _ c2 w1 hc1 hc2).mono ?_
  rintro e w2 ⟨rfl, rfl⟩
  go_wp2_with fail
  go_ret
  exact ⟨_, rfl, hn.out.mono (by omega), hB⟩

set_option maxRecDepth 100000 in
set_option maxHeartbeats 1000000 in
theorem subs_any (t : Tr) (w : World) (x : Value) (hx : TrIn Any w t x) (hs : Small t) : Calls Try.prog 15 #[x] w (RetP (NewRow w.heap.size (subsV t)) w) := by
  have hx0 := hx
  obtain ⟨a, c, rfl⟩ := TrIn_shape hx
  cases hv : formL.valid t with
  | false =>
    have E := hid (show subsV t = [] by simp [subsV, hv])
    go_enter Try.func15, Try.ntmps15
    go_wp2_with fail
    refine (valid_any t _ _ (TrIn_alloc hx _)).mono ?_
    rintro e w1 ⟨rfl, hb⟩
    rw [hv]
    replace hb := below_next (below_alloc _ _) hb
    clear hv
    go_wp2_with fail
    go_ret
    exact RetP.mk (by rw [E.out]; exact NewRow.nil _ _ _ (by simp) _) (by repeat (first | exact Below.refl _ _ | assumption | refine below_a ?_ _ | refine below_o ?_ _ | refine below_d ?_ | refine below_n ?_ _ | refine below_s ?_ (by first | (simp; done) | (simp; omega) | omega) _))
  | true =>
    have E := hid (show subsV t = subsT [] t by simp [subsV, hv])
    have hn : nodes t ≤ 12 := by
      rw [Lang.valid, Bool.and_eq_true, decide_eq_true_eq, formL_N] at hv
      exact hv.2
    go_enter Try.func15, Try.ntmps15
    go_wp2_with fail
    refine (valid_any t _ _ (TrIn_alloc hx _)).mono ?_
    rintro e w1 ⟨rfl, hb⟩
    rw [hv]
    obtain ⟨p0, p1, p2, p3, _⟩ := box3_next hb (box3_new ..)
    replace hb := below_next (below_alloc _ _) hb
    clear hv
    go_wp2_with fail
    refine (subs_own t _ _ (TrIn_below hb hx0) hs hn).mono ?_
    rintro e w2 ⟨v2, rfl, hr, hb2⟩
    have hs2 := hb.size
    go_wp2_with fail
    go_ret
    exact ⟨_, rfl, by rw [E.out]; exact hr.mono hs2, below_next hb hb2⟩
end Formula
end Go.Proofs.Ythjhokifonjeaaa
