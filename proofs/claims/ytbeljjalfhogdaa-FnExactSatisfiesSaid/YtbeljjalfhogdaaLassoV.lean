/- LassoValid, of the program and of the reference: what they return. Conditions: those of each contract. -/
import Derived.Test.YtbeljjalfhogdaaPairA
import Derived.Test.YtbeljjalfhogdaaImplIn
namespace Go.Proofs.Ytbeljjalfhogdaa
open Go.RowKit
namespace Lasso

def inL (n : Int) : Bool := decide (0 ≤ n ∧ n ≤ 7)
set_option maxHeartbeats 1000000 in
theorem specLetters_any (l : List Int) (w : World) (a : Option Addr) (c : Nat) (hl : IntsIn Any w a l) (hc : l.length ≤ c) (hc2 : c ≤ maxLen) :
    Calls Try.prog 34 #[.slice a l.length c] w (Ret (.bool (l.all inL)) w) := by
  unfold maxLen at hc2
  go_enter Try.func34, Try.ntmps34
  go_wp2_with fail
  go_loopw [3] (fun i wr => ∃ j : Nat, j ≤ l.length ∧ i = .int .i64 j ∧ Below w.heap.size w wr ∧ Hid ((l.drop j).all inL = l.all inL)) (fun i _ => l.length - (intOf i).toNat)
  case atStart => exact ⟨0, Nat.zero_le _, rfl, Below.refl _ _, hid rfl⟩
  case round =>
    obtain ⟨j, hj, rfl, B, hr⟩ := hrel
    by_cases hlt : j < l.length
    · obtain ⟨b, o, rfl, hb, _, g0, hi⟩ := ints_at hl B hlt
      have HR2 := hr.out
      rw [List.drop_eq_getElem_cons hlt, List.all_cons] at HR2
      have HR := hid HR2; clear HR2
      have hlt2 : (j : Int) < (l.length : Int) := by omega
      generalize l[j] = x at *
      by_cases h0 : x < 0
      · have E := hid (show l.all inL = false by rw [← HR.out]; simp [inL]; omega)
        go_wp2_with fail
        go_ret
        exact Ret.mk (bool_val E.out.symm) B
      · by_cases h3 : x > 7
        · have E := hid (show l.all inL = false by rw [← HR.out]; simp [inL]; omega)
          go_wp2_with fail
          go_ret
          exact Ret.mk (bool_val E.out.symm) B
        · have HR3 := HR.out
          rw [show inL x = true by simp [inL]; omega, Bool.true_and] at HR3
          have HR4 := hid HR3; clear HR3
          go_wp2_with fail
          go_roundw
          case rel => exact ⟨j + 1, by omega, by go_num, B, HR4⟩
          case measure => simp [intOf]; omega
    · have HR2 := hr.out
      rw [List.drop_of_length_le (by omega), List.all_nil] at HR2
      have hlt2 : ¬ ((j : Int) < (l.length : Int)) := by omega
      have E := hid (show true = l.all inL from HR2)
      clear HR2
      go_wp2_with fail
      go_ret
      exact Ret.mk (bool_val E.out) B

set_option maxHeartbeats 400000 in
theorem lclo_any (x : Int) (w : World) : Calls Try.prog 88 #[.int .i64 x] w (Ret (.bool (!inL x)) w) := by
  go_enter Try.func88, Try.ntmps88
  go_wp2_with fail
  refine (in_any x 0 7 _).mono ?_
  rintro e w1 ⟨rfl, rfl⟩
  go_wp2_with fail
  go_ret
  exact Ret.mk rfl (Below.refl _ _)

def IxL (bad : Bool) (w : World) (e : Ending) (w' : World) : Prop := ∃ i : Int, e = .returned (.int .i64 i) ∧ decide (0 ≤ i) = bad ∧ Below w.heap.size w w'

set_option maxHeartbeats 1000000 in
theorem lix_any (l : List Int) (w : World) (a : Option Addr) (c : Nat) (hl : IntsIn Any w a l) (hc : l.length ≤ c) (hc2 : c ≤ maxLen) :
    Calls Try.prog 96 #[.slice a l.length c, .func (.func 88) #[] #[]] w (IxL (!l.all inL) w) := by
  unfold maxLen at hc2
  go_enter Try.func96, Try.ntmps96
  go_wp2_with fail
  go_loopw [5, 8] (fun _ i wr => ∃ j : Nat, j ≤ l.length ∧ i = .int .i64 j ∧ Below w.heap.size w wr ∧ Hid ((l.drop j).all inL = l.all inL)) (fun _ i _ => l.length - (intOf i).toNat)
  case atStart => exact ⟨0, Nat.zero_le _, rfl, Below.refl _ _, hid rfl⟩
  case round =>
    obtain ⟨j, hj, rfl, B, hr⟩ := hrel
    by_cases hlt : j < l.length
    · obtain ⟨b, o, rfl, hb, _, g0, hi⟩ := ints_at hl B hlt
      have HR2 := hr.out
      rw [List.drop_eq_getElem_cons hlt, List.all_cons] at HR2
      have HR := hid HR2; clear HR2
      have hlt2 : (j : Int) < (l.length : Int) := by omega
      generalize l[j] = x at *
      go_wp2_with fail
      refine (lclo_any x _).mono ?_
      rintro e w2 ⟨rfl, hb2⟩
      replace B := below_next B hb2
      clear hb2
      cases hq : inL x with
      | true =>
        have HR3 := HR.out
        rw [hq, Bool.true_and] at HR3
        have HR4 := hid HR3; clear HR3 hq
        go_wp2_with fail
        go_roundw
        case rel => exact ⟨j + 1, by omega, by go_num, B, HR4⟩
        case measure => simp [intOf]; omega
      | false =>
        have HR3 := HR.out
        rw [hq, Bool.false_and] at HR3
        have HR4 := hid HR3; clear HR3 hq
        go_wp2_with fail
        go_ret
        exact ⟨j, rfl, by rw [← HR4.out]; simp, B⟩
    · have HR2 := hr.out
      rw [List.drop_of_length_le (by omega), List.all_nil] at HR2
      have HR := hid HR2; clear HR2
      have hlt2 : ¬ ((j : Int) < (l.length : Int)) := by omega
      go_wp2_with fail
      go_ret
      exact ⟨-1, rfl, by rw [← HR.out]; simp, B⟩

set_option maxHeartbeats 400000 in
theorem lcf_any (l : List Int) (w : World) (a : Option Addr) (c : Nat) (hl : IntsIn Any w a l) (hc : l.length ≤ c) (hc2 : c ≤ maxLen) :
    Calls Try.prog 87 #[.slice a l.length c, .func (.func 88) #[] #[]] w (Ret (.bool (!l.all inL)) w) := by
  have HH := hid (lix_any l w a c hl hc hc2)
  go_enter Try.func87, Try.ntmps87
  go_wp2_with fail
  refine HH.out.mono ?_
  rintro e w2 ⟨i, rfl, hi, hb⟩
  have HI := hid hi; clear hi
  go_wp2_with fail
  go_ret
  exact Ret.mk (bool_val HI.out) hb


set_option maxHeartbeats 400000 in
theorem letters_any (l : List Int) (w : World) (a : Option Addr) (c : Nat) (hl : IntsIn Any w a l) (hc : l.length ≤ c) (hc2 : c ≤ maxLen) :
    Calls Try.prog 58 #[.slice a l.length c] w (Ret (.bool (l.all inL)) w) := by
  have HH := hid (lcf_any l w a c hl hc hc2)
  go_enter Try.func58, Try.ntmps58
  go_wp2_with fail
  refine HH.out.mono ?_
  rintro e w2 ⟨rfl, hb⟩
  go_wp2_with fail
  go_ret
  exact Ret.mk (by simp) hb

/-- a valid lasso -/
def ok (stem loop : List Int) : Bool := stem.all inL && loop.all inL && decide (stem.length ≤ 80) && decide (1 ≤ loop.length) && decide (loop.length ≤ 80)

set_option maxHeartbeats 2000000 in
theorem specValid_any (l m : List Int) (w : World) (x : Value) (hx : PairIn Any w l m x) : Calls Try.prog 12 #[x] w (Ret (.bool (ok l m)) w) := by
  obtain ⟨a, b, c, d, rfl, h1, h2, hc, hc2, hd, hd2⟩ := hx
  have HG := hid (fun w' (M : Below w.heap.size w w') => specLetters_any l w' a c (h1.below M) hc hc2)
  have HV := hid (fun w' (M : Below w.heap.size w w') => specLetters_any m w' b d (h2.below M) hd hd2)
  have E := hid (show ok l m = (l.all inL && m.all inL && decide (l.length ≤ 80) && decide (1 ≤ m.length) && decide (m.length ≤ 80)) from rfl)
  generalize ok l m = r at *
  generalize l.all inL = g at *
  generalize m.all inL = v at *
  cases g
  · have E2 := hid (show r = false by rw [E.out]; simp)
    go_enter Try.func12, Try.ntmps12
    go_wp2_with fail
    refine (HG.out _ (by repeat (first | exact Below.refl _ _ | assumption | refine below_a ?_ _ | refine below_o ?_ _ | refine below_d ?_ | refine below_n ?_ _ | refine below_s ?_ (by first | (simp; done) | (simp; omega) | omega) _))).mono ?_
    rintro y w1 ⟨rfl, hb⟩
    go_wp2_with fail
    go_ret
    exact Ret.mk (bool_val E2.out.symm) (below_next (below_alloc _ _) hb)
  cases v
  · have E2 := hid (show r = false by rw [E.out]; simp)
    go_enter Try.func12, Try.ntmps12
    go_wp2_with fail
    refine (HG.out _ (by repeat (first | exact Below.refl _ _ | assumption | refine below_a ?_ _ | refine below_o ?_ _ | refine below_d ?_ | refine below_n ?_ _ | refine below_s ?_ (by first | (simp; done) | (simp; omega) | omega) _))).mono ?_
    rintro y w1 ⟨rfl, hb⟩
    obtain ⟨z, q0, q1, q2, q3⟩ := pbox_next hb (pbox_at rfl)
    have B := below_next (below_alloc _ _) hb
    clear hb
    go_wp2_with fail
    refine (HV.out _ B).mono ?_
    rintro y w2 ⟨rfl, hb⟩
    go_wp2_with fail
    go_ret
    exact Ret.mk (bool_val E2.out.symm) (below_next B hb)
  rcases (by omega : ¬ l.length ≤ 80 ∨ (l.length ≤ 80 ∧ ¬ 1 ≤ m.length) ∨ (l.length ≤ 80 ∧ 1 ≤ m.length ∧ ¬ m.length ≤ 80) ∨ (l.length ≤ 80 ∧ 1 ≤ m.length ∧ m.length ≤ 80)) with k1 | ⟨k1, k2⟩ | ⟨k1, k2, k3⟩ | ⟨k1, k2, k3⟩
  · have E2 := hid (show r = false by rw [E.out]; simp [k1])
    have j1 : ¬ ((l.length : Int) ≤ 80) := by omega
    clear k1
    go_enter Try.func12, Try.ntmps12
    go_wp2_with fail
    refine (HG.out _ (by repeat (first | exact Below.refl _ _ | assumption | refine below_a ?_ _ | refine below_o ?_ _ | refine below_d ?_ | refine below_n ?_ _ | refine below_s ?_ (by first | (simp; done) | (simp; omega) | omega) _))).mono ?_
    rintro y w1 ⟨rfl, hb⟩
    have Q := pbox_next hb (pbox_at rfl)
    obtain ⟨z, q0, q1, q2, q3⟩ := id Q
    have B := below_next (below_alloc _ _) hb
    clear hb
    go_wp2_with fail
    refine (HV.out _ B).mono ?_
    rintro y w2 ⟨rfl, hb⟩
    have B2 := below_next B hb
    obtain ⟨z, q0, q1, q2, q3⟩ := pbox_next hb Q
    clear hb Q
    go_wp2_with fail
    go_ret
    exact Ret.mk (bool_val (by rw [E2.out])) B2
  · have E2 := hid (show r = false by rw [E.out]; simp [k1, k2])
    have j1 : (l.length : Int) ≤ 80 := by omega
    have j2 : ¬ ((m.length : Int) ≥ 1) := by omega
    clear k1 k2
    go_enter Try.func12, Try.ntmps12
    go_wp2_with fail
    refine (HG.out _ (by repeat (first | exact Below.refl _ _ | assumption | refine below_a ?_ _ | refine below_o ?_ _ | refine below_d ?_ | refine below_n ?_ _ | refine below_s ?_ (by first | (simp; done) | (simp; omega) | omega) _))).mono ?_
    rintro y w1 ⟨rfl, hb⟩
    have Q := pbox_next hb (pbox_at rfl)
    obtain ⟨z, q0, q1, q2, q3⟩ := id Q
    have B := below_next (below_alloc _ _) hb
    clear hb
    go_wp2_with fail
    refine (HV.out _ B).mono ?_
    rintro y w2 ⟨rfl, hb⟩
    have B2 := below_next B hb
    obtain ⟨z, q0, q1, q2, q3⟩ := pbox_next hb Q
    clear hb Q
    go_wp2_with fail
    go_ret
    exact Ret.mk (bool_val (by rw [E2.out])) B2
  · have E2 := hid (show r = false by rw [E.out]; simp [k1, k2, k3])
    have j1 : (l.length : Int) ≤ 80 := by omega
    have j2 : (m.length : Int) ≥ 1 := by omega
    have j3 : ¬ ((m.length : Int) ≤ 80) := by omega
    clear k1 k2 k3
    go_enter Try.func12, Try.ntmps12
    go_wp2_with fail
    refine (HG.out _ (by repeat (first | exact Below.refl _ _ | assumption | refine below_a ?_ _ | refine below_o ?_ _ | refine below_d ?_ | refine below_n ?_ _ | refine below_s ?_ (by first | (simp; done) | (simp; omega) | omega) _))).mono ?_
    rintro y w1 ⟨rfl, hb⟩
    have Q := pbox_next hb (pbox_at rfl)
    obtain ⟨z, q0, q1, q2, q3⟩ := id Q
    have B := below_next (below_alloc _ _) hb
    clear hb
    go_wp2_with fail
    refine (HV.out _ B).mono ?_
    rintro y w2 ⟨rfl, hb⟩
    have B2 := below_next B hb
    obtain ⟨z, q0, q1, q2, q3⟩ := pbox_next hb Q
    clear hb Q
    go_wp2_with fail
    go_ret
    exact Ret.mk (bool_val (by rw [E2.out]; exact decide_eq_false (by omega))) B2
  · have E2 := hid (show r = true by rw [E.out]; simp [k1, k2, k3])
    have j1 : (l.length : Int) ≤ 80 := by omega
    have j2 : (m.length : Int) ≥ 1 := by omega
    have j3 : (m.length : Int) ≤ 80 := by omega
    clear k1 k2 k3
    go_enter Try.func12, Try.ntmps12
    go_wp2_with fail
    refine (HG.out _ (by repeat (first | exact Below.refl _ _ | assumption | refine below_a ?_ _ | refine below_o ?_ _ | refine below_d ?_ | refine below_n ?_ _ | refine below_s ?_ (by first | (simp; done) | (simp; omega) | omega) _))).mono ?_
    rintro y w1 ⟨rfl, hb⟩
    have Q := pbox_next hb (pbox_at rfl)
    obtain ⟨z, q0, q1, q2, q3⟩ := id Q
    have B := below_next (below_alloc _ _) hb
    clear hb
    go_wp2_with fail
    refine (HV.out _ B).mono ?_
    rintro y w2 ⟨rfl, hb⟩
    have B2 := below_next B hb
    obtain ⟨z, q0, q1, q2, q3⟩ := pbox_next hb Q
    clear hb Q
    go_wp2_with fail
    go_ret
    exact Ret.mk (bool_val (by rw [E2.out])) B2

set_option maxHeartbeats 2000000 in
theorem valid_any (l m : List Int) (w : World) (x : Value) (hx : PairIn Any w l m x) : Calls Try.prog 31 #[x] w (Ret (.bool (ok l m)) w) := by
  obtain ⟨a, b, c, d, rfl, h1, h2, hc, hc2, hd, hd2⟩ := hx
  have HG := hid (fun w' (M : Below w.heap.size w w') => letters_any l w' a c (h1.below M) hc hc2)
  have HV := hid (fun w' (M : Below w.heap.size w w') => letters_any m w' b d (h2.below M) hd hd2)
  have E := hid (show ok l m = (l.all inL && m.all inL && decide (l.length ≤ 80) && decide (1 ≤ m.length) && decide (m.length ≤ 80)) from rfl)
  generalize ok l m = r at *
  generalize l.all inL = g at *
  generalize m.all inL = v at *
  cases g
  · have E2 := hid (show r = false by rw [E.out]; simp)
    go_enter Try.func31, Try.ntmps31
    go_wp2_with fail
    refine (HG.out _ (by repeat (first | exact Below.refl _ _ | assumption | refine below_a ?_ _ | refine below_o ?_ _ | refine below_d ?_ | refine below_n ?_ _ | refine below_s ?_ (by first | (simp; done) | (simp; omega) | omega) _))).mono ?_
    rintro y w1 ⟨rfl, hb⟩
    go_wp2_with fail
    go_ret
    exact Ret.mk (bool_val E2.out.symm) (below_next (below_alloc _ _) hb)
  cases v
  · have E2 := hid (show r = false by rw [E.out]; simp)
    go_enter Try.func31, Try.ntmps31
    go_wp2_with fail
    refine (HG.out _ (by repeat (first | exact Below.refl _ _ | assumption | refine below_a ?_ _ | refine below_o ?_ _ | refine below_d ?_ | refine below_n ?_ _ | refine below_s ?_ (by first | (simp; done) | (simp; omega) | omega) _))).mono ?_
    rintro y w1 ⟨rfl, hb⟩
    obtain ⟨z, q0, q1, q2, q3⟩ := pbox_next hb (pbox_at rfl)
    have B := below_next (below_alloc _ _) hb
    clear hb
    go_wp2_with fail
    refine (HV.out _ B).mono ?_
    rintro y w2 ⟨rfl, hb⟩
    go_wp2_with fail
    go_ret
    exact Ret.mk (bool_val E2.out.symm) (below_next B hb)
  by_cases k1 : l.length ≤ 80
  · have j1 : (l.length : Int) ≤ 80 := by omega
    have E2 := hid (show decide (1 ≤ (m.length : Int) ∧ (m.length : Int) ≤ 80) = r by rw [E.out, Bool.eq_iff_iff]; simp [k1]; omega)
    clear k1
    go_enter Try.func31, Try.ntmps31
    go_wp2_with fail
    refine (HG.out _ (by repeat (first | exact Below.refl _ _ | assumption | refine below_a ?_ _ | refine below_o ?_ _ | refine below_d ?_ | refine below_n ?_ _ | refine below_s ?_ (by first | (simp; done) | (simp; omega) | omega) _))).mono ?_
    rintro y w1 ⟨rfl, hb⟩
    have Q := pbox_next hb (pbox_at rfl)
    obtain ⟨z, q0, q1, q2, q3⟩ := id Q
    have B := below_next (below_alloc _ _) hb
    clear hb
    go_wp2_with fail
    refine (HV.out _ B).mono ?_
    rintro y w2 ⟨rfl, hb⟩
    have B2 := below_next B hb
    obtain ⟨z, q0, q1, q2, q3⟩ := pbox_next hb Q
    clear hb Q
    go_wp2_with fail
    refine (in_any _ 1 80 _).mono ?_
    rintro y w3 ⟨rfl, rfl⟩
    go_wp2_with fail
    go_ret
    exact Ret.mk (bool_val (by rw [← E2.out]; rfl)) B2
  · have j1 : ¬ ((l.length : Int) ≤ 80) := by omega
    have E2 := hid (show r = false by rw [E.out]; simp [k1])
    clear k1
    go_enter Try.func31, Try.ntmps31
    go_wp2_with fail
    refine (HG.out _ (by repeat (first | exact Below.refl _ _ | assumption | refine below_a ?_ _ | refine below_o ?_ _ | refine below_d ?_ | refine below_n ?_ _ | refine below_s ?_ (by first | (simp; done) | (simp; omega) | omega) _))).mono ?_
    rintro y w1 ⟨rfl, hb⟩
    have Q := pbox_next hb (pbox_at rfl)
    obtain ⟨z, q0, q1, q2, q3⟩ := id Q
    have B := below_next (below_alloc _ _) hb
    clear hb
    go_wp2_with fail
    refine (HV.out _ B).mono ?_
    rintro y w2 ⟨rfl, hb⟩
    have B2 := below_next B hb
    obtain ⟨z, q0, q1, q2, q3⟩ := pbox_next hb Q
    clear hb Q
    go_wp2_with fail
    go_ret
    exact Ret.mk (bool_val (by rw [E2.out])) B2
end Lasso
end Go.Proofs.Ytbeljjalfhogdaa
