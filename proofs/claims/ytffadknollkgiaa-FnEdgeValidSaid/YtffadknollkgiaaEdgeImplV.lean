/- EdgeValid, of the program: what it returns, for every edge. Conditions: none. -/
import Derived.Test.YtffadknollkgiaaEdgeSpecV
import Derived.Test.YtffadknollkgiaaImplIn
namespace Go.Proofs.Ytffadknollkgiaa
open Go.RowKit
namespace Edge

set_option maxHeartbeats 4000000 in
theorem edge_any (e : Ed) (n : Int) (w : World) (x : Value) (hx : EdIn Any w e x) : Calls Try.prog 11 #[x, .int .i64 n] w (Ret (.bool (okB e n)) w) := by
  obtain ⟨a, c, a', c', rfl, _, _, _, _, hg, hv⟩ := hx
  have HG := hid (fun w' (M : Below w.heap.size w w') => Expr.valid_any e.guard w' _ (TrIn_below M hg))
  have HV := hid (fun w' (M : Below w.heap.size w w') => Expr.valid_any e.val w' _ (TrIn_below M hv))
  have HS := hid (fun w' (M : Below w.heap.size w w') => (show Calls Try.prog 43 #[.agg #[.int .i64 e.val.kind, .int .i64 e.val.val, .slice a' e.val.kids.length c'], .agg #[.int .i64 0, .int .i64 0, .slice none 0 0]] w' (Ret (.bool (isNone e.val)) w') by
    have := Expr.same_any e.val w' none0 _ _ (TrIn_below M hv) (none0_in Any w')
    rw [isNone_eq] at this
    exact this))
  clear hg hv
  by_cases h1 : 1 ≤ n ∧ n ≤ 4
  · have H1 := hid h1
    obtain ⟨n1, n2⟩ := h1
    by_cases h2 : 0 ≤ e.src ∧ e.src ≤ n - 1
    · by_cases h3 : 0 ≤ e.dst ∧ e.dst ≤ n - 1
      · have E0 := hid (show okB e n = okV e (exprL.valid e.guard) (exprL.valid e.val) by simp only [okB]; rw [decide_eq_true (by omega), Bool.true_and])
        have H2 := hid h2
        have H3 := hid h3
        clear h2 h3
        generalize exprL.valid e.guard = g at *
        generalize exprL.valid e.val = v at *
        cases g with
        | false =>
          have E := hid (show okB e n = false by rw [E0.out]; rfl)
          go_enter Try.func11, Try.ntmps11
          go_wp2_with fail
          refine (in_yes H1.out _).mono ?_
          rintro y _ ⟨rfl, rfl⟩
          go_wp2_with fail
          refine (in_yes H2.out _).mono ?_
          rintro y _ ⟨rfl, rfl⟩
          go_wp2_with fail
          refine (in_yes H3.out _).mono ?_
          rintro y _ ⟨rfl, rfl⟩
          go_wp2_with fail
          refine (HG.out _ (below_alloc _ _)).mono ?_
          rintro y w1 ⟨rfl, hb⟩
          have bx := box10_next hb (box10_new ..)
          have B := below_next (below_alloc _ _) hb
          clear hb
          obtain ⟨z, ⟨k0, k1, k2, k3, k4, k5, k6, k7, k8, k9⟩, _⟩ := id bx
          go_wp2_with fail
          go_ret
          exact Ret.mk (bool_val (by rw [E.out])) B
        | true =>
          by_cases h5 : -1 ≤ e.var ∧ e.var ≤ 2
          · have H5 := hid h5
            by_cases h8 : e.var < 0
            · have h9 : ¬ (e.var ≥ 0) := by omega
              have E2 := hid (show okB e n = (decide (-2 ≤ e.sync ∧ e.sync ≤ 2) && isNone e.val) by rw [E0.out]; simp [okV, h5, h8])
              clear h5
              generalize isNone e.val = q at *
              cases q with
              | false =>
                have E := hid (show okB e n = false by rw [E2.out]; simp)
                go_enter Try.func11, Try.ntmps11
                go_wp2_with fail
                refine (in_yes H1.out _).mono ?_
                rintro y _ ⟨rfl, rfl⟩
                go_wp2_with fail
                refine (in_yes H2.out _).mono ?_
                rintro y _ ⟨rfl, rfl⟩
                go_wp2_with fail
                refine (in_yes H3.out _).mono ?_
                rintro y _ ⟨rfl, rfl⟩
                go_wp2_with fail
                refine (HG.out _ (below_alloc _ _)).mono ?_
                rintro y w1 ⟨rfl, hb⟩
                have bx := box10_next hb (box10_new ..)
                have B := below_next (below_alloc _ _) hb
                clear hb
                obtain ⟨z, ⟨k0, k1, k2, k3, k4, k5, k6, k7, k8, k9⟩, _⟩ := id bx
                go_wp2_with fail
                refine (in_yes H5.out _).mono ?_
                rintro y _ ⟨rfl, rfl⟩
                go_wp2_with fail
                refine (HS.out _ B).mono ?_
                rintro y w2 ⟨rfl, hb⟩
                obtain ⟨z, ⟨k0, k1, k2, k3, k4, k5, k6, k7, k8, k9⟩, _⟩ := box10_next hb bx
                replace B := below_next B hb
                clear hb bx
                go_wp2_with fail
                go_ret
                exact Ret.mk (bool_val (by rw [E.out])) B
              | true =>
                by_cases h7 : -2 ≤ e.sync ∧ e.sync ≤ 2
                · have E := hid (show okB e n = true by rw [E2.out]; simp [h7])
                  have H7 := hid h7
                  clear h7
                  go_enter Try.func11, Try.ntmps11
                  go_wp2_with fail
                  refine (in_yes H1.out _).mono ?_
                  rintro y _ ⟨rfl, rfl⟩
                  go_wp2_with fail
                  refine (in_yes H2.out _).mono ?_
                  rintro y _ ⟨rfl, rfl⟩
                  go_wp2_with fail
                  refine (in_yes H3.out _).mono ?_
                  rintro y _ ⟨rfl, rfl⟩
                  go_wp2_with fail
                  refine (HG.out _ (below_alloc _ _)).mono ?_
                  rintro y w1 ⟨rfl, hb⟩
                  have bx := box10_next hb (box10_new ..)
                  have B := below_next (below_alloc _ _) hb
                  clear hb
                  obtain ⟨z, ⟨k0, k1, k2, k3, k4, k5, k6, k7, k8, k9⟩, _⟩ := id bx
                  go_wp2_with fail
                  refine (in_yes H5.out _).mono ?_
                  rintro y _ ⟨rfl, rfl⟩
                  go_wp2_with fail
                  refine (HS.out _ B).mono ?_
                  rintro y w2 ⟨rfl, hb⟩
                  obtain ⟨z, ⟨k0, k1, k2, k3, k4, k5, k6, k7, k8, k9⟩, _⟩ := box10_next hb bx
                  replace B := below_next B hb
                  clear hb bx
                  go_wp2_with fail
                  refine (in_yes H7.out _).mono ?_
                  rintro y _ ⟨rfl, rfl⟩
                  go_wp2_with fail
                  go_ret
                  exact Ret.mk (bool_val (by rw [E.out])) B
                · have E := hid (show okB e n = false by rw [E2.out]; simp [h7])
                  have H7 := hid h7
                  clear h7
                  go_enter Try.func11, Try.ntmps11
                  go_wp2_with fail
                  refine (in_yes H1.out _).mono ?_
                  rintro y _ ⟨rfl, rfl⟩
                  go_wp2_with fail
                  refine (in_yes H2.out _).mono ?_
                  rintro y _ ⟨rfl, rfl⟩
                  go_wp2_with fail
                  refine (in_yes H3.out _).mono ?_
                  rintro y _ ⟨rfl, rfl⟩
                  go_wp2_with fail
                  refine (HG.out _ (below_alloc _ _)).mono ?_
                  rintro y w1 ⟨rfl, hb⟩
                  have bx := box10_next hb (box10_new ..)
                  have B := below_next (below_alloc _ _) hb
                  clear hb
                  obtain ⟨z, ⟨k0, k1, k2, k3, k4, k5, k6, k7, k8, k9⟩, _⟩ := id bx
                  go_wp2_with fail
                  refine (in_yes H5.out _).mono ?_
                  rintro y _ ⟨rfl, rfl⟩
                  go_wp2_with fail
                  refine (HS.out _ B).mono ?_
                  rintro y w2 ⟨rfl, hb⟩
                  obtain ⟨z, ⟨k0, k1, k2, k3, k4, k5, k6, k7, k8, k9⟩, _⟩ := box10_next hb bx
                  replace B := below_next B hb
                  clear hb bx
                  go_wp2_with fail
                  refine (in_no H7.out _).mono ?_
                  rintro y _ ⟨rfl, rfl⟩
                  go_wp2_with fail
                  go_ret
                  exact Ret.mk (bool_val (by rw [E.out])) B
            · have h9 : e.var ≥ 0 := by omega
              have E2 := hid (show okB e n = (decide (-2 ≤ e.sync ∧ e.sync ≤ 2) && v) by rw [E0.out]; simp [okV, h5, h8])
              clear h5
              cases v with
              | false =>
                have E := hid (show okB e n = false by rw [E2.out]; simp)
                go_enter Try.func11, Try.ntmps11
                go_wp2_with fail
                refine (in_yes H1.out _).mono ?_
                rintro y _ ⟨rfl, rfl⟩
                go_wp2_with fail
                refine (in_yes H2.out _).mono ?_
                rintro y _ ⟨rfl, rfl⟩
                go_wp2_with fail
                refine (in_yes H3.out _).mono ?_
                rintro y _ ⟨rfl, rfl⟩
                go_wp2_with fail
                refine (HG.out _ (below_alloc _ _)).mono ?_
                rintro y w1 ⟨rfl, hb⟩
                have bx := box10_next hb (box10_new ..)
                have B := below_next (below_alloc _ _) hb
                clear hb
                obtain ⟨z, ⟨k0, k1, k2, k3, k4, k5, k6, k7, k8, k9⟩, _⟩ := id bx
                go_wp2_with fail
                refine (in_yes H5.out _).mono ?_
                rintro y _ ⟨rfl, rfl⟩
                go_wp2_with fail
                refine (HV.out _ B).mono ?_
                rintro y w2 ⟨rfl, hb⟩
                obtain ⟨z, ⟨k0, k1, k2, k3, k4, k5, k6, k7, k8, k9⟩, _⟩ := box10_next hb bx
                replace B := below_next B hb
                clear hb bx
                go_wp2_with fail
                go_ret
                exact Ret.mk (bool_val (by rw [E.out])) B
              | true =>
                by_cases h7 : -2 ≤ e.sync ∧ e.sync ≤ 2
                · have E := hid (show okB e n = true by rw [E2.out]; simp [h7])
                  have H7 := hid h7
                  clear h7
                  go_enter Try.func11, Try.ntmps11
                  go_wp2_with fail
                  refine (in_yes H1.out _).mono ?_
                  rintro y _ ⟨rfl, rfl⟩
                  go_wp2_with fail
                  refine (in_yes H2.out _).mono ?_
                  rintro y _ ⟨rfl, rfl⟩
                  go_wp2_with fail
                  refine (in_yes H3.out _).mono ?_
                  rintro y _ ⟨rfl, rfl⟩
                  go_wp2_with fail
                  refine (HG.out _ (below_alloc _ _)).mono ?_
                  rintro y w1 ⟨rfl, hb⟩
                  have bx := box10_next hb (box10_new ..)
                  have B := below_next (below_alloc _ _) hb
                  clear hb
                  obtain ⟨z, ⟨k0, k1, k2, k3, k4, k5, k6, k7, k8, k9⟩, _⟩ := id bx
                  go_wp2_with fail
                  refine (in_yes H5.out _).mono ?_
                  rintro y _ ⟨rfl, rfl⟩
                  go_wp2_with fail
                  refine (HV.out _ B).mono ?_
                  rintro y w2 ⟨rfl, hb⟩
                  obtain ⟨z, ⟨k0, k1, k2, k3, k4, k5, k6, k7, k8, k9⟩, _⟩ := box10_next hb bx
                  replace B := below_next B hb
                  clear hb bx
                  go_wp2_with fail
                  refine (in_yes H7.out _).mono ?_
                  rintro y _ ⟨rfl, rfl⟩
                  go_wp2_with fail
                  go_ret
                  exact Ret.mk (bool_val (by rw [E.out])) B
                · have E := hid (show okB e n = false by rw [E2.out]; simp [h7])
                  have H7 := hid h7
                  clear h7
                  go_enter Try.func11, Try.ntmps11
                  go_wp2_with fail
                  refine (in_yes H1.out _).mono ?_
                  rintro y _ ⟨rfl, rfl⟩
                  go_wp2_with fail
                  refine (in_yes H2.out _).mono ?_
                  rintro y _ ⟨rfl, rfl⟩
                  go_wp2_with fail
                  refine (in_yes H3.out _).mono ?_
                  rintro y _ ⟨rfl, rfl⟩
                  go_wp2_with fail
                  refine (HG.out _ (below_alloc _ _)).mono ?_
                  rintro y w1 ⟨rfl, hb⟩
                  have bx := box10_next hb (box10_new ..)
                  have B := below_next (below_alloc _ _) hb
                  clear hb
                  obtain ⟨z, ⟨k0, k1, k2, k3, k4, k5, k6, k7, k8, k9⟩, _⟩ := id bx
                  go_wp2_with fail
                  refine (in_yes H5.out _).mono ?_
                  rintro y _ ⟨rfl, rfl⟩
                  go_wp2_with fail
                  refine (HV.out _ B).mono ?_
                  rintro y w2 ⟨rfl, hb⟩
                  obtain ⟨z, ⟨k0, k1, k2, k3, k4, k5, k6, k7, k8, k9⟩, _⟩ := box10_next hb bx
                  replace B := below_next B hb
                  clear hb bx
                  go_wp2_with fail
                  refine (in_no H7.out _).mono ?_
                  rintro y _ ⟨rfl, rfl⟩
                  go_wp2_with fail
                  go_ret
                  exact Ret.mk (bool_val (by rw [E.out])) B
          · have E := hid (show okB e n = false by rw [E0.out]; simp [okV]; omega)
            have H5 := hid h5
            clear h5
            go_enter Try.func11, Try.ntmps11
            go_wp2_with fail
            refine (in_yes H1.out _).mono ?_
            rintro y _ ⟨rfl, rfl⟩
            go_wp2_with fail
            refine (in_yes H2.out _).mono ?_
            rintro y _ ⟨rfl, rfl⟩
            go_wp2_with fail
            refine (in_yes H3.out _).mono ?_
            rintro y _ ⟨rfl, rfl⟩
            go_wp2_with fail
            refine (HG.out _ (below_alloc _ _)).mono ?_
            rintro y w1 ⟨rfl, hb⟩
            have bx := box10_next hb (box10_new ..)
            have B := below_next (below_alloc _ _) hb
            clear hb
            obtain ⟨z, ⟨k0, k1, k2, k3, k4, k5, k6, k7, k8, k9⟩, _⟩ := id bx
            go_wp2_with fail
            refine (in_no H5.out _).mono ?_
            rintro y _ ⟨rfl, rfl⟩
            go_wp2_with fail
            go_ret
            exact Ret.mk (bool_val (by rw [E.out])) B
      · have E := hid (show okB e n = false by simp only [okB]; rw [decide_eq_false (by omega), Bool.false_and])
        have H2 := hid h2
        have H3 := hid h3
        clear h2 h3
        go_enter Try.func11, Try.ntmps11
        go_wp2_with fail
        refine (in_yes H1.out _).mono ?_
        rintro y _ ⟨rfl, rfl⟩
        go_wp2_with fail
        refine (in_yes H2.out _).mono ?_
        rintro y _ ⟨rfl, rfl⟩
        go_wp2_with fail
        refine (in_no H3.out _).mono ?_
        rintro y _ ⟨rfl, rfl⟩
        go_wp2_with fail
        go_ret
        exact Ret.mk (bool_val (by rw [E.out])) (by repeat (first | exact Below.refl _ _ | assumption | refine below_a ?_ _ | refine below_o ?_ _ | refine below_d ?_ | refine below_n ?_ _ | refine below_s ?_ (by first | (simp; done) | (simp; omega) | omega) _))
    · have E := hid (show okB e n = false by simp only [okB]; rw [decide_eq_false (by omega), Bool.false_and])
      have H2 := hid h2
      clear h2
      go_enter Try.func11, Try.ntmps11
      go_wp2_with fail
      refine (in_yes H1.out _).mono ?_
      rintro y _ ⟨rfl, rfl⟩
      go_wp2_with fail
      refine (in_no H2.out _).mono ?_
      rintro y _ ⟨rfl, rfl⟩
      go_wp2_with fail
      go_ret
      exact Ret.mk (bool_val (by rw [E.out])) (by repeat (first | exact Below.refl _ _ | assumption | refine below_a ?_ _ | refine below_o ?_ _ | refine below_d ?_ | refine below_n ?_ _ | refine below_s ?_ (by first | (simp; done) | (simp; omega) | omega) _))
  · have E := hid (show okB e n = false by simp only [okB]; rw [decide_eq_false (by omega), Bool.false_and])
    have H1 := hid h1
    clear h1
    go_enter Try.func11, Try.ntmps11
    go_wp2_with fail
    refine (in_no H1.out _).mono ?_
    rintro y _ ⟨rfl, rfl⟩
    go_wp2_with fail
    go_ret
    exact Ret.mk (bool_val (by rw [E.out])) (by repeat (first | exact Below.refl _ _ | assumption | refine below_a ?_ _ | refine below_o ?_ _ | refine below_d ?_ | refine below_n ?_ _ | refine below_s ?_ (by first | (simp; done) | (simp; omega) | omega) _))

end Edge
end Go.Proofs.Ytffadknollkgiaa
