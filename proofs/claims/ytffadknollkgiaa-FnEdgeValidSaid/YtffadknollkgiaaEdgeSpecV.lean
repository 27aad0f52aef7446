/- EdgeValid, of the reference and of the program: what each returns, for every edge. Conditions: none. -/
import Derived.Test.YtffadknollkgiaaEdgeIn
import Derived.Test.YtffadknollkgiaaExprSpecVB
import Derived.Test.YtffadknollkgiaaExprImplN
import Derived.Test.YtffadknollkgiaaExprSame
import Derived.Test.YtffadknollkgiaaMore
namespace Go.Proofs.Ytffadknollkgiaa
open Go.RowKit
namespace Edge

/-- the empty expression -/
def none0 : Tr := .mk 0 0 []
theorem none0_in (p : Nat → Prop) (w : World) : TrIn p w none0 (.agg #[.int .i64 0, .int .i64 0, .slice none 0 0]) :=
  (TrIn_mk ..).2 ⟨none, 0, 0, rfl, by unfold i64; omega, by unfold i64; omega, rfl, Nat.le_refl _, Nat.zero_le _, TrsIn_nil _ _ _⟩
def isNone (t : Tr) : Bool := decide (t.kind = 0) && (decide (t.val = 0) && decide (t.kids.length = 0))
theorem isNone_eq (t : Tr) : eqT t none0 = isNone t := by
  rw [Bool.eq_iff_iff, eqT_true]
  simp only [isNone, Bool.and_eq_true, decide_eq_true_eq]
  cases t with
  | mk k v kids => cases kids <;> simp [none0, Tr.kind, Tr.val, Tr.kids]

theorem none_any (t : Tr) (w : World) (x : Value) (hx : TrIn Any w t x) : Calls Try.prog 45 #[x] w (Ret (.bool (isNone t)) w) := by
  obtain ⟨a, c, rfl⟩ := TrIn_shape hx
  by_cases h1 : t.kind = 0
  · by_cases h2 : t.val = 0
    · have E := hid (show isNone t = decide ((t.kids.length : Int) = 0) by simp [isNone, h1, h2])
      go_enter Try.func45, Try.ntmps45
      go_wp2_with fail
      go_ret
      exact Ret.mk (bool_val (by rw [E.out, Bool.eq_iff_iff]; simp)) (by repeat (first | exact Below.refl _ _ | assumption | refine below_a ?_ _ | refine below_o ?_ _ | refine below_d ?_ | refine below_n ?_ _ | refine below_s ?_ (by first | (simp; done) | (simp; omega) | omega) _))
    · have E := hid (show isNone t = false by simp [isNone, h2])
      go_enter Try.func45, Try.ntmps45
      go_wp2_with fail
      go_ret
      exact Ret.mk (bool_val (by rw [E.out])) (by repeat (first | exact Below.refl _ _ | assumption | refine below_a ?_ _ | refine below_o ?_ _ | refine below_d ?_ | refine below_n ?_ _ | refine below_s ?_ (by first | (simp; done) | (simp; omega) | omega) _))
  · have E := hid (show isNone t = false by simp [isNone, h1])
    go_enter Try.func45, Try.ntmps45
    go_wp2_with fail
    go_ret
    exact Ret.mk (bool_val (by rw [E.out])) (by repeat (first | exact Below.refl _ _ | assumption | refine below_a ?_ _ | refine below_o ?_ _ | refine below_d ?_ | refine below_n ?_ _ | refine below_s ?_ (by first | (simp; done) | (simp; omega) | omega) _))

def okV (e : Ed) (g v : Bool) : Bool := g && (decide (-2 ≤ e.sync ∧ e.sync ≤ 2) && (decide (-1 ≤ e.var ∧ e.var ≤ 2) && (if e.var < 0 then isNone e.val else v)))
/-- is an edge valid among so many locations -/
def okB (e : Ed) (n : Int) : Bool := decide ((0 ≤ e.src ∧ e.src < n) ∧ (0 ≤ e.dst ∧ e.dst < n) ∧ n ≤ 4) && okV e (exprL.valid e.guard) (exprL.valid e.val)

set_option maxHeartbeats 4000000 in
theorem specEdge_any (e : Ed) (n : Int) (w : World) (x : Value) (hx : EdIn Any w e x) : Calls Try.prog 12 #[x, .int .i64 n] w (Ret (.bool (okB e n)) w) := by
  obtain ⟨a, c, a', c', rfl, _, _, _, _, hg, hv⟩ := hx
  have HG := hid (fun w' (M : Below w.heap.size w w') => Expr.specValid_any e.guard w' _ (TrIn_below M hg))
  have HV := hid (fun w' (M : Below w.heap.size w w') => Expr.specValid_any e.val w' _ (TrIn_below M hv))
  have HN := hid (fun w' (M : Below w.heap.size w w') => none_any e.val w' _ (TrIn_below M hv))
  clear hg hv
  by_cases h0 : (0 ≤ e.src ∧ e.src < n) ∧ (0 ≤ e.dst ∧ e.dst < n) ∧ n ≤ 4
  · obtain ⟨⟨h1, h2⟩, ⟨h3, h4⟩, h5⟩ := h0
    have E0 := hid (show okB e n = okV e (exprL.valid e.guard) (exprL.valid e.val) by simp [okB, h1, h2, h3, h4, h5])
    generalize exprL.valid e.guard = g at *
    generalize exprL.valid e.val = v at *
    cases g with
    | false =>
      have E := hid (show okB e n = false by rw [E0.out]; rfl)
      go_enter Try.func12, Try.ntmps12
      go_wp2_with fail
      refine (HG.out _ (below_alloc _ _)).mono ?_
      rintro y w1 ⟨rfl, hb⟩
      obtain ⟨z, ⟨k0, k1, k2, k3, k4, k5, k6, k7, k8, k9⟩, _⟩ := box10_next hb (box10_new ..)
      have B := below_next (below_alloc _ _) hb
      clear hb
      go_wp2_with fail
      go_ret
      exact Ret.mk (bool_val (by rw [E.out])) B
    | true =>
      by_cases h6 : -2 ≤ e.sync ∧ e.sync ≤ 2
      · by_cases h7 : -1 ≤ e.var ∧ e.var ≤ 2
        · obtain ⟨h6, h6'⟩ := h6
          obtain ⟨h7, h7'⟩ := h7
          by_cases h8 : e.var < 0
          · have E := hid (show okB e n = isNone e.val by rw [E0.out]; simp [okV, h6, h6', h7, h7', h8])
            have h9 : ¬ (e.var ≥ 0) := by omega
            generalize isNone e.val = q at *
            cases q
            all_goals
              go_enter Try.func12, Try.ntmps12
              go_wp2_with fail
              refine (HG.out _ (below_alloc _ _)).mono ?_
              rintro y w1 ⟨rfl, hb⟩
              have bx := box10_next hb (box10_new ..)
              have B := below_next (below_alloc _ _) hb
              clear hb
              obtain ⟨z, ⟨k0, k1, k2, k3, k4, k5, k6, k7, k8, k9⟩, _⟩ := id bx
              go_wp2_with fail
              refine (HN.out _ B).mono ?_
              rintro y w2 ⟨rfl, hb⟩
              obtain ⟨z, ⟨k0, k1, k2, k3, k4, k5, k6, k7, k8, k9⟩, _⟩ := box10_next hb bx
              replace B := below_next B hb
              clear hb bx
              go_wp2_with fail
              go_ret
              exact Ret.mk (bool_val (by rw [E.out])) B
          · have E := hid (show okB e n = v by rw [E0.out]; simp [okV, h6, h6', h7, h7', h8])
            have h9 : e.var ≥ 0 := by omega
            go_enter Try.func12, Try.ntmps12
            go_wp2_with fail
            refine (HG.out _ (below_alloc _ _)).mono ?_
            rintro y w1 ⟨rfl, hb⟩
            have bx := box10_next hb (box10_new ..)
            have B := below_next (below_alloc _ _) hb
            clear hb
            obtain ⟨z, ⟨k0, k1, k2, k3, k4, k5, k6, k7, k8, k9⟩, _⟩ := id bx
            go_wp2_with fail
            refine (HV.out _ B).mono ?_
            rintro y w2 ⟨rfl, hb⟩
            obtain ⟨z, ⟨k0, k1, k2, k3, k4, k5, k6, k7, k8, k9⟩, _⟩ := box10_next hb bx
            replace B := below_next B hb
            clear hb bx
            go_wp2_with fail
            go_ret
            exact Ret.mk (bool_val (by rw [E.out])) B
        · have E := hid (show okB e n = false by rw [E0.out]; simp [okV]; omega)
          obtain ⟨h6, h6'⟩ := h6
          have h7' : e.var < -1 ∨ (¬ e.var < -1 ∧ e.var ≥ 3) := by omega
          clear h7
          rcases h7' with h7 | ⟨h7, h8⟩
          all_goals
            go_enter Try.func12, Try.ntmps12
            go_wp2_with fail
            refine (HG.out _ (below_alloc _ _)).mono ?_
            rintro y w1 ⟨rfl, hb⟩
            obtain ⟨z, ⟨k0, k1, k2, k3, k4, k5, k6, k7, k8, k9⟩, _⟩ := box10_next hb (box10_new ..)
            have B := below_next (below_alloc _ _) hb
            clear hb
            go_wp2_with fail
            go_ret
            exact Ret.mk (bool_val (by rw [E.out])) B
      · have E := hid (show okB e n = false by rw [E0.out]; simp [okV]; omega)
        have h6' : e.sync < -2 ∨ (¬ e.sync < -2 ∧ e.sync > 2) := by omega
        clear h6
        rcases h6' with h7 | ⟨h7, h8⟩
        all_goals
          go_enter Try.func12, Try.ntmps12
          go_wp2_with fail
          refine (HG.out _ (below_alloc _ _)).mono ?_
          rintro y w1 ⟨rfl, hb⟩
          obtain ⟨z, ⟨k0, k1, k2, k3, k4, k5, k6, k7, k8, k9⟩, _⟩ := box10_next hb (box10_new ..)
          have B := below_next (below_alloc _ _) hb
          clear hb
          go_wp2_with fail
          go_ret
          exact Ret.mk (bool_val (by rw [E.out])) B
  · have E := hid (show okB e n = false by simp only [okB, decide_eq_false h0, Bool.false_and])
    have h1 : e.src < 0 ∨ (¬ e.src < 0 ∧ e.src ≥ n) ∨ (¬ e.src < 0 ∧ ¬ e.src ≥ n ∧ e.dst < 0) ∨ (¬ e.src < 0 ∧ ¬ e.src ≥ n ∧ ¬ e.dst < 0 ∧ e.dst ≥ n) ∨ (¬ e.src < 0 ∧ ¬ e.src ≥ n ∧ ¬ e.dst < 0 ∧ ¬ e.dst ≥ n ∧ n > 4) := by omega
    clear h0
    rcases h1 with h1 | ⟨h1, h2⟩ | ⟨h1, h2, h3⟩ | ⟨h1, h2, h3, h4⟩ | ⟨h1, h2, h3, h4, h5⟩
    all_goals
      go_enter Try.func12, Try.ntmps12
      go_wp2_with fail
      go_ret
      exact Ret.mk (bool_val (by rw [E.out])) (below_alloc _ _)
end Edge
end Go.Proofs.Ytffadknollkgiaa
