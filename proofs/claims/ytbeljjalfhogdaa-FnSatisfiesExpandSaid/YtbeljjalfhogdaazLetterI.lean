/- The program's LetterAt at the first position. Conditions: those of each contract. -/
import Derived.Test.YtbeljjalfhogdaaJL11
namespace Go.Proofs.Ytbeljjalfhogdaa
open Go.RowKit
set_option linter.unusedVariables false
set_option linter.unusedSimpArgs false
namespace Lasso

set_option maxRecDepth 100000 in
set_option maxHeartbeats 2000000 in
theorem letter0_any (s l : List Int) (hok : ok s l = true) (w : World) (x : Value) (hx : PairIn Any w s l x) : Calls Try.prog 22 #[x, .int .i64 0] w (Ret2 (.int .i64 (wordOf s l 0)) (.bool true) w) := by
  have HV := hid (fun (W : World) (M : Below w.heap.size w W) => valid_any s l W x (hx.below M))
  obtain ⟨a, b, c, d, rfl, hi1, hi2, c1, c2, d1, d2⟩ := hx
  have I1 := hid (fun (W : World) (M : Below w.heap.size w W) => hi1.below M)
  have I2 := hid (fun (W : World) (M : Below w.heap.size w W) => hi2.below M)
  obtain ⟨k1, k2, k3, _⟩ := ok_len hok
  rw [hok] at HV
  unfold maxLen at c2 d2
  clear hi1 hi2 hok
  by_cases h0 : 0 < s.length
  · have hlt : (0 : Int) < (s.length : Int) := by omega
    have E := hid (show wordOf s l 0 = s[0] by rw [wordOf, if_pos h0, List.getD_eq_getElem?_getD, List.getElem?_eq_getElem h0]; rfl)
    go_enter Try.func22, Try.ntmps22
    go_wp2_with fail
    refine (HV.out _ (by repeat (first | exact Below.refl _ _ | assumption | refine below_a ?_ _ | refine below_o ?_ _ | refine below_d ?_ | refine below_n ?_ _ | refine below_s ?_ (by first | (simp; done) | (simp; omega) | omega) _))).mono ?_
    rintro e w1 ⟨rfl, hb⟩
    have X := hid (boxp_next hb (boxp_at (w := w) (B := w.heap.size) (a := .slice a s.length c) (b := .slice b l.length d) (t := 25) rfl))
    have B := hid (below_next (show Below w.heap.size w _ from below_alloc _ _) hb)
    clear hb
    obtain ⟨x0, x1, x2, x3, x4⟩ := id X.out
    obtain ⟨g, o, rfl, gb, _, gc, gi⟩ := ints_at (I1.out w (Below.refl _ _)) B.out h0
    rw [Nat.add_zero] at gc
    go_wp2_with fail
    go_ret2
    exact Ret2.mk (by rw [E.out]; rfl) rfl B.out
  · have hlt : ¬ ((0 : Int) < (s.length : Int)) := by omega
    have hs0 : s.length = 0 := by omega
    have h1 : 0 < l.length := by omega
    have E := hid (show wordOf s l 0 = l[0] by rw [wordOf, if_neg h0, hs0, Nat.sub_zero, Nat.zero_mod, List.getD_eq_getElem?_getD, List.getElem?_eq_getElem h1]; rfl)
    have hz : (s.length : Int) = 0 := by omega
    have hl0 : (0 : Int) < (l.length : Int) := by omega
    have hl1 : (l.length : Int) ≠ 0 := by omega
    clear hs0
    go_enter Try.func22, Try.ntmps22
    go_wp2_with fail
    refine (HV.out _ (by repeat (first | exact Below.refl _ _ | assumption | refine below_a ?_ _ | refine below_o ?_ _ | refine below_d ?_ | refine below_n ?_ _ | refine below_s ?_ (by first | (simp; done) | (simp; omega) | omega) _))).mono ?_
    rintro e w1 ⟨rfl, hb⟩
    have X := hid (boxp_next hb (boxp_at (w := w) (B := w.heap.size) (a := .slice a s.length c) (b := .slice b l.length d) (t := 25) rfl))
    have B := hid (below_next (show Below w.heap.size w _ from below_alloc _ _) hb)
    clear hb
    obtain ⟨x0, x1, x2, x3, x4⟩ := id X.out
    obtain ⟨g, o, rfl, gb, _, gc, gi⟩ := ints_at (I2.out w (Below.refl _ _)) B.out h1
    rw [Nat.add_zero] at gc
    go_wp2_with fail
    refine wp_region_over (by kernel_rfl) (by kernel_rfl) ?_; (repeat (go_big_quiet_step ((fail)))); refine wpQuiet_nil ?_; rintro _ ⟨xq, rfl⟩
    have B2 := hid (below_next B.out (over_below _ xq))
    go_wp2_with fail
    go_ret2
    exact Ret2.mk (by rw [E.out]; rfl) rfl B2.out

/-! ### expansion, plainly -/
theorem exp_of {s l : List Int} {k v : Int} {kids : List Tr} (h : satOk s l (.mk k v kids) = true) : 1 ≤ k ∧ k ≤ 10 ∧ 0 ≤ v ∧ v ≤ formL.most k ∧ (kids.length : Int) = formL.ar k := by
  have h2 := (sat_ok h).2.2
  obtain ⟨m, _, h3, h4, h5, h6, h7, _⟩ := formL.shape_mk (valid_shape h2)
  rw [formL_K] at h4
  exact ⟨h3, h4, h5, h6, h7⟩
theorem exp7 {s l : List Int} {v : Int} {a b : Tr} (h : satOk s l (.mk 7 v [a, b]) = true) : satV s l (.mk 7 v [a, b]) = (satV s l b || satV s l a && sem (wordOf s l) (.mk 7 v [a, b]) 1) := by
  rw [(sat_ok h).1, (sat_kid h a (by simp)).2, (sat_kid h b (by simp)).2, sem7, unt_step]
theorem exp8 {s l : List Int} {v : Int} {a b : Tr} (h : satOk s l (.mk 8 v [a, b]) = true) : satV s l (.mk 8 v [a, b]) = (satV s l b && (satV s l a || sem (wordOf s l) (.mk 8 v [a, b]) 1)) := by
  rw [(sat_ok h).1, (sat_kid h a (by simp)).2, (sat_kid h b (by simp)).2, sem8, rls_step]
theorem exp9 {s l : List Int} {v : Int} {a : Tr} (h : satOk s l (.mk 9 v [a]) = true) : satV s l (.mk 9 v [a]) = (satV s l a || sem (wordOf s l) (.mk 9 v [a]) 1) := by
  rw [(sat_ok h).1, (sat_kid h a (by simp)).2, sem9, unt_step, Bool.true_and]
theorem exp10 {s l : List Int} {v : Int} {a : Tr} (h : satOk s l (.mk 10 v [a]) = true) : satV s l (.mk 10 v [a]) = (satV s l a && sem (wordOf s l) (.mk 10 v [a]) 1) := by
  rw [(sat_ok h).1, (sat_kid h a (by simp)).2, sem10, rls_step, Bool.false_or]
theorem exp6 {s l : List Int} {v : Int} {a : Tr} (h : satOk s l (.mk 6 v [a]) = true) : satV s l (.mk 6 v [a]) = sem (wordOf s l) a 1 := by
  rw [(sat_ok h).1, sem6]
theorem exp4 {s l : List Int} {v : Int} {a b : Tr} (h : satOk s l (.mk 4 v [a, b]) = true) : satV s l (.mk 4 v [a, b]) = (satV s l a && satV s l b) := by
  rw [(sat_ok h).1, (sat_kid h a (by simp)).2, (sat_kid h b (by simp)).2, sem4]
theorem exp5 {s l : List Int} {v : Int} {a b : Tr} (h : satOk s l (.mk 5 v [a, b]) = true) : satV s l (.mk 5 v [a, b]) = (satV s l a || satV s l b) := by
  rw [(sat_ok h).1, (sat_kid h a (by simp)).2, (sat_kid h b (by simp)).2, sem5]
theorem exp3 {s l : List Int} {v : Int} {a : Tr} (h : satOk s l (.mk 3 v [a]) = true) : satV s l (.mk 3 v [a]) = !satV s l a := by
  rw [(sat_ok h).1, (sat_kid h a (by simp)).2, sem3]
theorem exp1 {s l : List Int} {v : Int} (h : satOk s l (.mk 1 v []) = true) : satV s l (.mk 1 v []) = true := by
  rw [(sat_ok h).1, sem1]
theorem exp2 {s l : List Int} {v : Int} (h : satOk s l (.mk 2 v []) = true) : satV s l (.mk 2 v []) = bit (wordOf s l 0) v := by
  rw [(sat_ok h).1, sem2]
end Lasso
end Go.Proofs.Ytbeljjalfhogdaa
