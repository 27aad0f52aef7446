/- The program's SameWord: what it returns. Conditions: those of the contract. -/
import Derived.Test.YtkjnmkjdooebmaazRedI
set_option linter.unusedVariables false
set_option linter.unusedSimpArgs false
namespace Go.Proofs.Ytkjnmkjdooebmaa
open Go.RowKit
set_option linter.unusedVariables false
set_option linter.unusedSimpArgs false
namespace Lasso

set_option maxRecDepth 100000 in
set_option maxHeartbeats 4000000 in
theorem sameW_any (s l s' l' : List Int) (w : World) (x y : Value) (hx : PairIn Any w s l x) (hy : PairIn Any w s' l' y) (nx : NilOk x) (ny : NilOk y) : Calls Try.prog 6 #[x, y] w (Ret (.bool (sameW s l s' l')) w) := by
  have HVX := hid (fun (W : World) (M : Below w.heap.size w W) => valid_any s l W _ (hx.below M))
  have HVY := hid (fun (W : World) (M : Below w.heap.size w W) => valid_any s' l' W _ (hy.below M))
  have HX := hid (fun (h : ok s l = true) (W : World) (M : Below w.heap.size w W) => red_any s l W _ (hx.below M) nx h)
  have HY := hid (fun (h : ok s' l' = true) (W : World) (M : Below w.heap.size w W) => red_any s' l' W _ (hy.below M) ny h)
  have HS := hid (fun (W : World) (u v : Value) (h1 : RedV s l u W) (h2 : RedV s' l' v W) => sameL_any _ _ _ _ W u v h1 h2)
  have HE := hid (show sameW s l s' l' = (ok s l && ok s' l' && (decide ((red s l).1 = (red s' l').1) && decide ((red s l).2 = (red s' l').2))) by rw [sameW, Bool.and_assoc])
  obtain ⟨a, b, c, d, rfl, _⟩ := id hx
  obtain ⟨a', b', c', d', rfl, _⟩ := id hy
  generalize sameW s l s' l' = r at *
  generalize (decide ((red s l).1 = (red s' l').1) && decide ((red s l).2 = (red s' l').2)) = z at *
  clear hx hy nx ny
  go_enter Try.func6, Try.ntmps6
  go_upto_region 1 with fail
  refine wp_gen (fun W => Below w.heap.size w W ∧ BoxP W w.heap.size (.slice a s.length c) (.slice b l.length d) ∧ BoxP W (w.heap.size + 1) (.slice a' s'.length c') (.slice b' l'.length d')) ⟨(by repeat (first | exact Below.refl _ _ | assumption | refine below_a ?_ _ | refine below_o ?_ _ | refine below_d ?_ | refine below_n ?_ _ | refine below_s ?_ (by first | (simp; done) | (simp; omega) | omega) _)), boxp_next (below_alloc _ _) (boxp_at rfl), boxp_at (by simp)⟩ ?_
  rintro W0 ⟨B0, P0, Q0⟩
  have MB := hid B0
  clear B0
  obtain ⟨p0, p1, p2, p3, p4⟩ := id P0
  refine wp_region_ord (C := fun wZ => ∃ xZ, wZ = World.over _ xZ) [0] (.one 1 (.one 2 (.one 3 (.one 4 (.one 5 (.one 6 (.two 7 9 (.two 8 9 (.one 9 (.one 10 (.one 11 (.one 12 (.one 13 .done))))) (.one 8 (.one 10 (.one 11 (.one 12 (.one 13 .done)))))) (.one 7 (.one 8 (.one 10 (.one 11 (.one 12 (.one 13 .done))))))))))))) [] (by kernel_rfl) (by kernel_rfl) (fun d _ _ _ _ h => by cases d <;> exact h) (bex (Below.refl _ _).drew) ?_; simp only [pick, List.getElem?_cons_succ, List.getElem?_cons_zero]; (repeat (go_big_quiet_step (fail))); refine wpQuiet_nil ?_; simp only [ordW, pick, List.getElem?_cons_succ, List.getElem?_cons_zero]
  have D := hid (below_d (Below.refl W0.heap.size W0))
  have P := hid (boxp_next D.out P0)
  have Q := hid (boxp_next D.out Q0)
  clear P0 Q0 p0 p1 p2 p3 p4
  generalize W0.drew = v0 at *
  go_wp2_with fail
  refine (HVX.out _ (below_next MB.out D.out)).mono ?_
  rintro e v1 ⟨rfl, hb⟩
  replace D := hid (below_next D.out hb)
  replace P := hid (boxp_next hb P.out)
  replace Q := hid (boxp_next hb Q.out)
  clear hb HVX
  cases hox : ok s l with
  | false =>
    rw [hox] at HE
    clear hox HX HY HS HVY
    go_wp2_with fail
    refine ⟨bex D.out, ?_⟩
    go_wp2_with fail
    refine ⟨bex D.out, ?_⟩
    go_wp2_with fail
    refine ⟨bex D.out, ?_⟩
    go_wp2_with fail
    refine ⟨bex D.out, ?_⟩
    go_wp2_with fail
    refine ⟨bex D.out, ?_⟩
    go_wp2_with fail
    refine ⟨bex D.out, ?_⟩
    constructor
    · go_wp2_with fail
      refine ⟨bex D.out, ?_⟩
      constructor
      · go_wp2_with fail
        refine ⟨bex D.out, ?_⟩
        go_wp2_with fail
        refine ⟨bex D.out, ?_⟩
        go_wp2_with fail
        refine ⟨bex D.out, ?_⟩
        go_wp2_with fail
        refine ⟨bex D.out, ?_⟩
        go_wp2_with fail
        refine ⟨bex D.out, ?_⟩
        go_wp2_with fail
        refine ⟨bex D.out, ?_⟩
        go_wp2_with fail
        go_ret
        exact Ret.mk (bool_val (by rw [HE.out]; simp)) (below_next MB.out D.out)
      · go_wp2_with fail
        refine ⟨bex D.out, ?_⟩
        go_wp2_with fail
        refine ⟨bex D.out, ?_⟩
        go_wp2_with fail
        refine ⟨bex D.out, ?_⟩
        go_wp2_with fail
        refine ⟨bex D.out, ?_⟩
        go_wp2_with fail
        refine ⟨bex D.out, ?_⟩
        go_wp2_with fail
        refine ⟨bex D.out, ?_⟩
        go_wp2_with fail
        go_ret
        exact Ret.mk (bool_val (by rw [HE.out]; simp)) (below_next MB.out D.out)
    · go_wp2_with fail
      refine ⟨bex D.out, ?_⟩
      go_wp2_with fail
      refine ⟨bex D.out, ?_⟩
      go_wp2_with fail
      refine ⟨bex D.out, ?_⟩
      go_wp2_with fail
      refine ⟨bex D.out, ?_⟩
      go_wp2_with fail
      refine ⟨bex D.out, ?_⟩
      go_wp2_with fail
      refine ⟨bex D.out, ?_⟩
      go_wp2_with fail
      refine ⟨bex D.out, ?_⟩
      go_wp2_with fail
      go_ret
      exact Ret.mk (bool_val (by rw [HE.out]; simp)) (below_next MB.out D.out)
  | true =>
    have HOX := hid hox
    clear hox
    go_wp2_with fail
    refine ⟨bex D.out, ?_⟩
    go_wp2_with fail
    refine ⟨bex D.out, ?_⟩
    obtain ⟨q0, q1, q2, q3, q4⟩ := id Q.out
    go_wp2_with fail
    refine ⟨bex D.out, ?_⟩
    clear q0 q1 q2 q3 q4
    go_wp2_with fail
    refine (HVY.out _ (below_next MB.out D.out)).mono ?_
    rintro e v2 ⟨rfl, hb⟩
    replace D := hid (below_next D.out hb)
    replace P := hid (boxp_next hb P.out)
    replace Q := hid (boxp_next hb Q.out)
    clear hb HVY
    cases hoy : ok s' l' with
    | false =>
      rw [HOX.out, hoy] at HE
      clear hoy HX HY HS
      go_wp2_with fail
      refine ⟨bex D.out, ?_⟩
      go_wp2_with fail
      refine ⟨bex D.out, ?_⟩
      go_wp2_with fail
      refine ⟨bex D.out, ?_⟩
      constructor
      · go_wp2_with fail
        refine ⟨bex D.out, ?_⟩
        constructor
        · go_wp2_with fail
          refine ⟨bex D.out, ?_⟩
          go_wp2_with fail
          refine ⟨bex D.out, ?_⟩
          go_wp2_with fail
          refine ⟨bex D.out, ?_⟩
          go_wp2_with fail
          refine ⟨bex D.out, ?_⟩
          go_wp2_with fail
          refine ⟨bex D.out, ?_⟩
          go_wp2_with fail
          refine ⟨bex D.out, ?_⟩
          go_wp2_with fail
          go_ret
          exact Ret.mk (bool_val (by rw [HE.out]; simp)) (below_next MB.out D.out)
        · go_wp2_with fail
          refine ⟨bex D.out, ?_⟩
          go_wp2_with fail
          refine ⟨bex D.out, ?_⟩
          go_wp2_with fail
          refine ⟨bex D.out, ?_⟩
          go_wp2_with fail
          refine ⟨bex D.out, ?_⟩
          go_wp2_with fail
          refine ⟨bex D.out, ?_⟩
          go_wp2_with fail
          refine ⟨bex D.out, ?_⟩
          go_wp2_with fail
          go_ret
          exact Ret.mk (bool_val (by rw [HE.out]; simp)) (below_next MB.out D.out)
      · go_wp2_with fail
        refine ⟨bex D.out, ?_⟩
        go_wp2_with fail
        refine ⟨bex D.out, ?_⟩
        go_wp2_with fail
        refine ⟨bex D.out, ?_⟩
        go_wp2_with fail
        refine ⟨bex D.out, ?_⟩
        go_wp2_with fail
        refine ⟨bex D.out, ?_⟩
        go_wp2_with fail
        refine ⟨bex D.out, ?_⟩
        go_wp2_with fail
        refine ⟨bex D.out, ?_⟩
        go_wp2_with fail
        go_ret
        exact Ret.mk (bool_val (by rw [HE.out]; simp)) (below_next MB.out D.out)
    | true =>
      rw [HOX.out, hoy] at HE
      have HOY := hid hoy
      clear hoy
      go_wp2_with fail
      refine ⟨bex D.out, ?_⟩
      go_wp2_with fail
      refine ⟨bex D.out, ?_⟩
      go_wp2_with fail
      refine ⟨bex D.out, ?_⟩
      constructor
      · obtain ⟨p0, p1, p2, p3, p4⟩ := id P.out
        go_wp2_with fail
        clear p0 p1 p2 p3 p4
        refine ⟨bex D.out, ?_⟩
        constructor
        · go_wp2_with fail
          refine (HX.out HOX.out _ (below_next MB.out D.out)).mono ?_
          rintro e z1 ⟨u1, rfl, hu, hb⟩
          replace D := hid (below_next D.out hb)
          replace P := hid (boxp_next hb P.out)
          replace Q := hid (boxp_next hb Q.out)
          have U := hid hu
          clear hb hu
          go_wp2_with fail
          refine ⟨bex D.out, ?_⟩
          obtain ⟨q0, q1, q2, q3, q4⟩ := id Q.out
          go_wp2_with fail
          clear q0 q1 q2 q3 q4
          refine ⟨bex D.out, ?_⟩
          go_wp2_with fail
          refine (HY.out HOY.out _ (below_next MB.out D.out)).mono ?_
          rintro e z2 ⟨u2, rfl, hu, hb⟩
          replace D := hid (below_next D.out hb)
          replace U := hid (show RedV s l u1 z2 from PairIn.below U.out hb)
          have V := hid hu
          clear hb hu
          go_wp2_with fail
          refine ⟨bex D.out, ?_⟩
          go_wp2_with fail
          refine (HS.out _ _ _ U.out V.out).mono ?_
          rintro e z3 ⟨rfl, hb⟩
          replace D := hid (below_next D.out hb)
          clear hb
          go_wp2_with fail
          refine ⟨bex D.out, ?_⟩
          go_wp2_with fail
          refine ⟨bex D.out, ?_⟩
          go_wp2_with fail
          refine ⟨bex D.out, ?_⟩
          go_wp2_with fail
          go_ret
          exact Ret.mk (bool_val (by rw [HE.out]; simp)) (below_next MB.out D.out)
        · obtain ⟨q0, q1, q2, q3, q4⟩ := id Q.out
          go_wp2_with fail
          clear q0 q1 q2 q3 q4
          refine ⟨bex D.out, ?_⟩
          go_wp2_with fail
          refine (HX.out HOX.out _ (below_next MB.out D.out)).mono ?_
          rintro e z1 ⟨u1, rfl, hu, hb⟩
          replace D := hid (below_next D.out hb)
          replace P := hid (boxp_next hb P.out)
          replace Q := hid (boxp_next hb Q.out)
          have U := hid hu
          clear hb hu
          go_wp2_with fail
          refine ⟨bex D.out, ?_⟩
          go_wp2_with fail
          refine (HY.out HOY.out _ (below_next MB.out D.out)).mono ?_
          rintro e z2 ⟨u2, rfl, hu, hb⟩
          replace D := hid (below_next D.out hb)
          replace U := hid (show RedV s l u1 z2 from PairIn.below U.out hb)
          have V := hid hu
          clear hb hu
          go_wp2_with fail
          refine ⟨bex D.out, ?_⟩
          go_wp2_with fail
          refine (HS.out _ _ _ U.out V.out).mono ?_
          rintro e z3 ⟨rfl, hb⟩
          replace D := hid (below_next D.out hb)
          clear hb
          go_wp2_with fail
          refine ⟨bex D.out, ?_⟩
          go_wp2_with fail
          refine ⟨bex D.out, ?_⟩
          go_wp2_with fail
          refine ⟨bex D.out, ?_⟩
          go_wp2_with fail
          go_ret
          exact Ret.mk (bool_val (by rw [HE.out]; simp)) (below_next MB.out D.out)
      · obtain ⟨q0, q1, q2, q3, q4⟩ := id Q.out
        go_wp2_with fail
        clear q0 q1 q2 q3 q4
        refine ⟨bex D.out, ?_⟩
        obtain ⟨p0, p1, p2, p3, p4⟩ := id P.out
        go_wp2_with fail
        clear p0 p1 p2 p3 p4
        refine ⟨bex D.out, ?_⟩
        go_wp2_with fail
        refine (HX.out HOX.out _ (below_next MB.out D.out)).mono ?_
        rintro e z1 ⟨u1, rfl, hu, hb⟩
        replace D := hid (below_next D.out hb)
        replace P := hid (boxp_next hb P.out)
        replace Q := hid (boxp_next hb Q.out)
        have U := hid hu
        clear hb hu
        go_wp2_with fail
        refine ⟨bex D.out, ?_⟩
        go_wp2_with fail
        refine (HY.out HOY.out _ (below_next MB.out D.out)).mono ?_
        rintro e z2 ⟨u2, rfl, hu, hb⟩
        replace D := hid (below_next D.out hb)
        replace U := hid (show RedV s l u1 z2 from PairIn.below U.out hb)
        have V := hid hu
        clear hb hu
        go_wp2_with fail
        refine ⟨bex D.out, ?_⟩
        go_wp2_with fail
        refine (HS.out _ _ _ U.out V.out).mono ?_
        rintro e z3 ⟨rfl, hb⟩
        replace D := hid (below_next D.out hb)
        clear hb
        go_wp2_with fail
        refine ⟨bex D.out, ?_⟩
        go_wp2_with fail
        refine ⟨bex D.out, ?_⟩
        go_wp2_with fail
        refine ⟨bex D.out, ?_⟩
        go_wp2_with fail
        go_ret
        exact Ret.mk (bool_val (by rw [HE.out]; simp)) (below_next MB.out D.out)
end Lasso
end Go.Proofs.Ytkjnmkjdooebmaa
