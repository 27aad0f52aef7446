/- The reference's LetterAt and l6Has. Conditions: those of each contract. -/
import Derived.Test.YtbeljjalfhogdaaFixS
import Derived.Test.YtbeljjalfhogdaaLassoV
import Derived.Test.YtbeljjalfhogdaaTruthsP
namespace Go.Proofs.Ytbeljjalfhogdaa
open Go.RowKit
namespace Lasso

def Ret2 (u v : Value) (w : World) (e : Ending) (w' : World) : Prop := e = .returned (.tuple #[u, v]) ∧ Below w.heap.size w w'
theorem Ret2.mk {u v u' v' : Value} {w w' : World} (h : u = u') (k : v = v') (hb : Below w.heap.size w w') : Ret2 u' v' w (.returned (.tuple #[u, v])) w' := ⟨by rw [h, k], hb⟩
/-- what LassoValid says of the numbers -/
theorem ok_len {stem loop : List Int} (h : ok stem loop = true) : stem.length ≤ 80 ∧ 1 ≤ loop.length ∧ loop.length ≤ 80 ∧ ∀ n, n ∈ stem ++ loop → 0 ≤ n ∧ n ≤ 7 := by
  simp only [ok, Bool.and_eq_true, decide_eq_true_eq, List.all_eq_true, inL] at h
  obtain ⟨⟨⟨⟨h1, h2⟩, h3⟩, h4⟩, h5⟩ := h
  refine ⟨h3, h4, h5, fun n hn => ?_⟩
  rcases List.mem_append.1 hn with hn | hn
  · exact h1 n hn
  · exact h2 n hn
theorem wordOf_ix {stem loop : List Int} {i : Nat} : (ixV stem.length loop.length i < stem.length → wordOf stem loop i = stem.getD (ixV stem.length loop.length i) 0) ∧ (¬ ixV stem.length loop.length i < stem.length → wordOf stem loop i = loop.getD (ixV stem.length loop.length i - stem.length) 0) := by
  unfold ixV wordOf
  by_cases h : i < stem.length
  · rw [if_pos h, if_pos h]
    exact ⟨fun _ => rfl, fun h2 => absurd h h2⟩
  · rw [if_neg h, if_neg h]
    refine ⟨fun h2 => by omega, fun _ => ?_⟩
    rw [Nat.add_sub_cancel_left]

set_option maxHeartbeats 2000000 in
theorem specLetter_any (stem loop : List Int) (hok : ok stem loop = true) (i : Nat) (hi : i ≤ 4611686018427387904) (w : World) (x : Value) (hx : PairIn Any w stem loop x) :
    Calls Try.prog 75 #[x, .int .i64 i] w (Ret2 (.int .i64 (wordOf stem loop i)) (.bool true) w) := by
  have HX := hid hx
  obtain ⟨h1, h2, h3, h4⟩ := ok_len hok
  obtain ⟨a, b, c, d, rfl, ha, hb, hc, hc2, hd, hd2⟩ := hx
  have HV := hid (fun (w' : World) (M : Below w.heap.size w w') => specValid_any stem loop w' _ (HX.out.below M))
  rw [hok] at HV
  have HI := hid (fun (w' : World) => specIndex_any stem.length loop.length i w' a b c d (by omega) (by omega) (by omega) hi)
  have hl := ixV_lt (s := stem.length) (p := loop.length) (i := i) (by omega)
  have hw := wordOf_ix (stem := stem) (loop := loop) (i := i)
  have hi0 : ¬ ((i : Int) < 0) := by omega
  clear hok h4
  generalize wordOf stem loop i = r at *
  generalize ixV stem.length loop.length i = k at *
  by_cases hk : k < stem.length
  · have E := hid (hw.1 hk)
    have hk2 : (k : Int) < (stem.length : Int) := by omega
    obtain ⟨b1, o1, rfl, hb1, _, g0, _⟩ := ints_at ha (Below.refl _ _) hk
    have G0 := hid g0
    clear hw g0
    go_enter Try.func75, Try.ntmps75
    go_wp2_with fail
    refine (HV.out _ (by repeat (first | exact Below.refl _ _ | assumption | refine below_a ?_ _ | refine below_o ?_ _ | refine below_d ?_ | refine below_n ?_ _ | refine below_s ?_ (by first | (simp; done) | (simp; omega) | omega) _))).mono ?_
    rintro e w1 ⟨rfl, hb⟩
    have Q := pbox_next hb (pbox_at rfl)
    have B := hid (below_next (below_alloc _ _) hb)
    obtain ⟨z, q0, q1, q2, q3⟩ := id Q
    clear hb
    go_wp2_with fail
    refine (HI.out _).mono ?_
    rintro e w2 ⟨rfl, hb⟩
    replace Q := pbox_next hb Q
    have B2 := hid (below_next B.out hb)
    obtain ⟨z', q0', q1', q2', q3'⟩ := id Q
    have g1 := B2.out.cell (p := ⟨b1, o1 + k, none⟩) hb1
    rw [G0.out] at g1
    have hb2 := B2.out.size
    clear hb q0 q1 q2 q3
    go_wp2_with fail
    go_ret2
    exact Ret2.mk (by rw [E.out, List.getD_eq_getElem?_getD, List.getElem?_eq_getElem hk]; rfl) rfl B2.out
  · have E := hid (hw.2 hk)
    have hk2 : ¬ ((k : Int) < (stem.length : Int)) := by omega
    obtain ⟨m, rfl⟩ : ∃ m, k = stem.length + m := ⟨k - stem.length, by omega⟩
    have hm : m < loop.length := by omega
    obtain ⟨b1, o1, rfl, hb1, _, g0, _⟩ := ints_at hb (Below.refl _ _) hm
    have G0 := hid g0
    have f1 : IntKind.i64.wrap (((stem.length + m : Nat) : Int) - stem.length) = m := by rw [IntWalk.i64_in _ (by omega)]; omega
    have hm2 : (m : Int) < (loop.length : Int) := by omega
    clear hw g0 hk
    go_enter Try.func75, Try.ntmps75
    go_wp2_with fail
    refine (HV.out _ (by repeat (first | exact Below.refl _ _ | assumption | refine below_a ?_ _ | refine below_o ?_ _ | refine below_d ?_ | refine below_n ?_ _ | refine below_s ?_ (by first | (simp; done) | (simp; omega) | omega) _))).mono ?_
    rintro e w1 ⟨rfl, hb⟩
    have Q := pbox_next hb (pbox_at rfl)
    have B := hid (below_next (below_alloc _ _) hb)
    obtain ⟨z, q0, q1, q2, q3⟩ := id Q
    clear hb
    go_wp2_with fail
    refine (HI.out _).mono ?_
    rintro e w2 ⟨rfl, hb⟩
    replace Q := pbox_next hb Q
    have B2 := hid (below_next B.out hb)
    obtain ⟨z', q0', q1', q2', q3'⟩ := id Q
    have g1 := B2.out.cell (p := ⟨b1, o1 + m, none⟩) hb1
    rw [G0.out] at g1
    have hb2 := B2.out.size
    clear hb q0 q1 q2 q3
    go_wp2_with fail
    go_ret2
    exact Ret2.mk (by rw [E.out, Nat.add_sub_cancel_left, List.getD_eq_getElem?_getD, List.getElem?_eq_getElem hm]; rfl) rfl B2.out

set_option maxHeartbeats 1000000 in
theorem specHas_any (z v : Int) (w : World) (hz : 0 ≤ z ∧ z ≤ 7) (hv : 0 ≤ v ∧ v ≤ 2) : Calls Try.prog 76 #[.int .i64 z, .int .i64 v] w (Ret (.bool (bit z v)) w) := by
  have E := hid (show (bits BinOp.and IntKind.i64 (z / 2 ^ v.toNat) 1 == 1) = bit z v by
    have := and_bit z v hz hv
    rwa [Nat.min_eq_left (by omega)] at this)
  go_enter Try.func76, Try.ntmps76
  go_wp2_with fail
  go_ret
  exact Ret.mk (bool_val E.out) (by repeat (first | exact Below.refl _ _ | assumption | refine below_a ?_ _ | refine below_o ?_ _ | refine below_d ?_ | refine below_n ?_ _ | refine below_s ?_ (by first | (simp; done) | (simp; omega) | omega) _))
end Lasso
end Go.Proofs.Ytbeljjalfhogdaa
