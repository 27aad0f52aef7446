/- The laws' own functions on edges: szEdge, eqEdge, toEdge. Conditions: those of each contract. -/
import Derived.Test.YtchlpeflfiecdaaEdgeIn
import Derived.Test.YtchlpeflfiecdaaExprA
import Derived.Test.YtchlpeflfiecdaaGrow
namespace Go.Proofs.Ytchlpeflfiecdaa
open Go.RowKit
namespace Edge

def szE (e : Ed) (left : Int) : Int := if szT e.guard left < 0 then -1 else if szT e.val (szT e.guard left) < 0 then -1 else szT e.val (szT e.guard left)
theorem szE_bd (e : Ed) (left : Int) (h1 : -1 ≤ left) (h2 : left ≤ 1048576) : -1 ≤ szE e left ∧ szE e left ≤ 1048576 := by
  have h3 := szT_bd e.guard left h1 h2
  have h4 := szT_bd e.val (szT e.guard left) h3.1 h3.2
  unfold szE
  split
  · omega
  · split <;> omega
def SmallE (e : Ed) : Prop := Small e.guard ∧ Small e.val
theorem smallE_of_sz (e : Ed) (left : Int) (h1 : -1 ≤ left) (h2 : left ≤ 1048576) (h : 0 ≤ szE e left) : SmallE e := by
  have h3 := szT_bd e.guard left h1 h2
  unfold szE at h
  split at h
  · omega
  · split at h
    · omega
    · exact ⟨small_of_sz _ left h2 (by omega), small_of_sz _ _ h3.2 (by omega)⟩

set_option maxHeartbeats 1000000 in
theorem sz_any (e : Ed) (w : World) (x : Value) (left : Int) (hx : EdIn Any w e x) (h1 : left ≤ 1048576) (h2 : -1 ≤ left) : Calls Try.prog 12 #[x, .int .i64 left] w (Ret (.int .i64 (szE e left)) w) := by
  obtain ⟨a, c, a', c', rfl, _, _, _, _, hg, hv⟩ := hx
  have h3 := szT_bd e.guard left h2 h1
  have h4 := szT_bd e.val (szT e.guard left) h3.1 h3.2
  have HG := hid (fun w' (M : Below w.heap.size w w') => Expr.sz_any e.guard w' _ left (TrIn_below M hg) h1 h2)
  have HV := hid (fun w' (M : Below w.heap.size w w') => Expr.sz_any e.val w' _ (szT e.guard left) (TrIn_below M hv) h3.2 h3.1)
  have E := hid (show szE e left = if szT e.guard left < 0 then -1 else if szT e.val (szT e.guard left) < 0 then -1 else szT e.val (szT e.guard left) from rfl)
  generalize szT e.guard left = g at *
  generalize szT e.val g = v at *
  by_cases k1 : g < 0
  · have E2 := hid (show szE e left = -1 by rw [E.out, if_pos k1])
    go_enter Try.func12, Try.ntmps12
    go_wp2_with fail
    refine (HG.out _ (below_alloc _ _)).mono ?_
    rintro y w1 ⟨rfl, hb⟩
    go_wp2_with fail
    go_ret
    exact Ret.mk (int_val (by rw [E2.out])) (below_next (below_alloc _ _) hb)
  · by_cases k2 : v < 0
    · have E2 := hid (show szE e left = -1 by rw [E.out, if_neg k1, if_pos k2])
      go_enter Try.func12, Try.ntmps12
      go_wp2_with fail
      refine (HG.out _ (below_alloc _ _)).mono ?_
      rintro y w1 ⟨rfl, hb⟩
      obtain ⟨z, ⟨q0, q1, q2, q3, q4, q5, q6, q7, q8, q9⟩, _⟩ := box10_next hb (box10_new ..)
      have B := below_next (below_alloc _ _) hb
      clear hb
      go_wp2_with fail
      refine (HV.out _ B).mono ?_
      rintro y w2 ⟨rfl, hb⟩
      go_wp2_with fail
      go_ret
      exact Ret.mk (int_val (by rw [E2.out])) (below_next B hb)
    · have E2 := hid (show szE e left = v by rw [E.out, if_neg k1, if_neg k2])
      go_enter Try.func12, Try.ntmps12
      go_wp2_with fail
      refine (HG.out _ (below_alloc _ _)).mono ?_
      rintro y w1 ⟨rfl, hb⟩
      obtain ⟨z, ⟨q0, q1, q2, q3, q4, q5, q6, q7, q8, q9⟩, _⟩ := box10_next hb (box10_new ..)
      have B := below_next (below_alloc _ _) hb
      clear hb
      go_wp2_with fail
      refine (HV.out _ B).mono ?_
      rintro y w2 ⟨rfl, hb⟩
      go_wp2_with fail
      go_ret
      exact Ret.mk (int_val (by rw [E2.out])) (below_next B hb)

theorem calls_q {P : Program} {f : FuncId} {args : Array Value} {w : World} {q q' : Bool} (hq : q' = q) (h : Calls P f args w (Ret (.bool q) w)) : Calls P f args w (Ret (.bool q') w) := by rw [hq]; exact h
/-- are two edges equal -/
def eqE (e f : Ed) : Bool := decide (e.src = f.src) && (decide (e.dst = f.dst) && (eqT e.guard f.guard && (decide (e.var = f.var) && (eqT e.val f.val && decide (e.sync = f.sync)))))
theorem eqE_refl (e : Ed) : eqE e e = true := by simp [eqE, eqT_refl]
theorem eqE_true (e f : Ed) : eqE e f = true ↔ e = f := by
  cases e; cases f
  simp [eqE, eqT_true, Bool.and_eq_true]

set_option maxHeartbeats 4000000 in
theorem eq_any (e f : Ed) (w : World) (x y : Value) (hx : EdIn Any w e x) (hy : EdIn Any w f y) : Calls Try.prog 16 #[x, y] w (Ret (.bool (eqE e f)) w) := by
  obtain ⟨a, c, a', c', rfl, _, _, _, _, hg, hv⟩ := hx
  obtain ⟨b, d, b', d', rfl, _, _, _, _, hg', hv'⟩ := hy
  have HG := hid (fun w' (M : Below w.heap.size w w') => Expr.eq_any e.guard w' f.guard _ _ (TrIn_below M hg) (TrIn_below M hg'))
  have HV := hid (fun w' (M : Below w.heap.size w w') => Expr.eq_any e.val w' f.val _ _ (TrIn_below M hv) (TrIn_below M hv'))
  have E := hid (show eqE e f = (decide (e.src = f.src) && (decide (e.dst = f.dst) && (eqT e.guard f.guard && (decide (e.var = f.var) && (eqT e.val f.val && decide (e.sync = f.sync)))))) from rfl)
  generalize eqT e.guard f.guard = g at *
  generalize eqT e.val f.val = v at *
  clear hg hv hg' hv'
  by_cases h1 : e.src = f.src
  · by_cases h2 : e.dst = f.dst
    · cases g with
      | false =>
        refine calls_q (q := false) (by rw [E.out]; simp) ?_
        go_enter Try.func16, Try.ntmps16
        go_wp2_with fail
        refine (HG.out _ (by exact below_next (below_alloc _ _) (below_alloc _ _))).mono ?_
        rintro y w1 ⟨rfl, hb⟩
        go_wp2_with fail
        go_ret
        exact Ret.mk rfl (below_next (below_next (below_alloc _ _) (below_alloc _ _)) hb)
      | true =>
        by_cases h4 : e.var = f.var
        · cases v with
          | false =>
            refine calls_q (q := false) (by rw [E.out]; simp) ?_
            go_enter Try.func16, Try.ntmps16
            go_wp2_with fail
            refine (HG.out _ (by exact below_next (below_alloc _ _) (below_alloc _ _))).mono ?_
            rintro y w1 ⟨rfl, hb⟩
            obtain ⟨z, ⟨q0, q1, q2, q3, q4, q5, q6, q7, q8, q9⟩, _⟩ := box10_next hb (box10_next (below_alloc _ _) (box10_new w _ _ _ _ _ _ _ _ _ _ _))
            obtain ⟨z', ⟨r0, r1, r2, r3, r4, r5, r6, r7, r8, r9⟩, _⟩ := box10_next hb (box10_at (B := w.heap.size + 1) (by simp) _ _ _ _ _ _ _ _ _ _ _)
            have B := below_next (below_next (below_alloc _ _) (below_alloc _ _)) hb
            clear hb
            go_wp2_with fail
            refine (HV.out _ B).mono ?_
            rintro y w2 ⟨rfl, hb⟩
            go_wp2_with fail
            go_ret
            exact Ret.mk rfl (below_next B hb)
          | true =>
            have E2 := hid (show eqE e f = decide (e.sync = f.sync) by rw [E.out]; simp [h1, h2, h4])
            by_cases h6 : e.sync = f.sync
            all_goals
              refine calls_q (q := decide (e.sync = f.sync)) E2.out ?_
              go_enter Try.func16, Try.ntmps16
              go_wp2_with fail
              refine (HG.out _ (by exact below_next (below_alloc _ _) (below_alloc _ _))).mono ?_
              rintro y w1 ⟨rfl, hb⟩
              have bx := box10_next hb (box10_next (below_alloc _ _) (box10_new w _ _ _ _ _ _ _ _ _ _ _))
              have by' := box10_next hb (box10_at (B := w.heap.size + 1) (by simp) _ _ _ _ _ _ _ _ _ _ _)
              have B := below_next (below_next (below_alloc _ _) (below_alloc _ _)) hb
              clear hb
              obtain ⟨z, ⟨q0, q1, q2, q3, q4, q5, q6, q7, q8, q9⟩, _⟩ := id bx
              obtain ⟨z', ⟨r0, r1, r2, r3, r4, r5, r6, r7, r8, r9⟩, _⟩ := id by'
              go_wp2_with fail
              refine (HV.out _ B).mono ?_
              rintro y w2 ⟨rfl, hb⟩
              obtain ⟨z, ⟨q0, q1, q2, q3, q4, q5, q6, q7, q8, q9⟩, _⟩ := box10_next hb bx
              obtain ⟨z', ⟨r0, r1, r2, r3, r4, r5, r6, r7, r8, r9⟩, _⟩ := box10_next hb by'
              replace B := below_next B hb
              clear hb bx by'
              go_wp2_with fail
              go_ret
              exact Ret.mk (bool_val (by simp [h6])) B
        · refine calls_q (q := false) (by rw [E.out]; simp [h4]) ?_
          go_enter Try.func16, Try.ntmps16
          go_wp2_with fail
          refine (HG.out _ (by exact below_next (below_alloc _ _) (below_alloc _ _))).mono ?_
          rintro y w1 ⟨rfl, hb⟩
          obtain ⟨z, ⟨q0, q1, q2, q3, q4, q5, q6, q7, q8, q9⟩, _⟩ := box10_next hb (box10_next (below_alloc _ _) (box10_new w _ _ _ _ _ _ _ _ _ _ _))
          obtain ⟨z', ⟨r0, r1, r2, r3, r4, r5, r6, r7, r8, r9⟩, _⟩ := box10_next hb (box10_at (B := w.heap.size + 1) (by simp) _ _ _ _ _ _ _ _ _ _ _)
          have B := below_next (below_next (below_alloc _ _) (below_alloc _ _)) hb
          clear hb
          go_wp2_with fail
          go_ret
          exact Ret.mk rfl B
    · refine calls_q (q := false) (by rw [E.out]; simp [h2]) ?_
      go_enter Try.func16, Try.ntmps16
      go_wp2_with fail
      go_ret
      exact Ret.mk rfl (below_next (below_alloc _ _) (below_alloc _ _))
  · refine calls_q (q := false) (by rw [E.out]; simp [h1]) ?_
    go_enter Try.func16, Try.ntmps16
    go_wp2_with fail
    go_ret
    exact Ret.mk rfl (below_next (below_alloc _ _) (below_alloc _ _))

end Edge
end Go.Proofs.Ytchlpeflfiecdaa
