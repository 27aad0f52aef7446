/- The program's next position of a lasso. Conditions: those of each contract. -/
import Derived.Test.YtbeljjalfhogdaaPairA
import Derived.Test.YtbeljjalfhogdaaWordPlain
namespace Go.Proofs.Ytbeljjalfhogdaa
open Go.RowKit
namespace Lasso

theorem next_any (s p i : Nat) (w : World) (a b : Option Addr) (c d : Nat) (hs : s ≤ 1000) (hp : p ≤ 1000) (hi : i < s + p) :
    Calls Try.prog 63 #[.agg #[.slice a s c, .slice b p d], .int .i64 i] w (Ret (.int .i64 (nx s p i : Nat)) w) := by
  by_cases h : i + 1 = s + p
  · have e1 : ((i : Int) + 1 == (s : Int) + p) = true := by rw [beq_iff_eq]; omega
    have E := hid (show nx s p i = s by unfold nx; rw [if_pos h])
    clear h
    go_enter Try.func63, Try.ntmps63
    go_wp2_with fail
    go_ret
    exact Ret.mk (int_val (by rw [E.out])) (by repeat (first | exact Below.refl _ _ | assumption | refine below_a ?_ _ | refine below_o ?_ _ | refine below_d ?_ | refine below_n ?_ _ | refine below_s ?_ (by first | (simp; done) | (simp; omega) | omega) _))
  · have e1 : ((i : Int) + 1 == (s : Int) + p) = false := by rw [beq_eq_false_iff_ne]; omega
    have E := hid (show nx s p i = i + 1 by unfold nx; rw [if_neg h])
    clear h
    go_enter Try.func63, Try.ntmps63
    go_wp2_with fail
    go_ret
    exact Ret.mk (int_val (by rw [E.out]; omega)) (by repeat (first | exact Below.refl _ _ | assumption | refine below_a ?_ _ | refine below_o ?_ _ | refine below_d ?_ | refine below_n ?_ _ | refine below_s ?_ (by first | (simp; done) | (simp; omega) | omega) _))
end Lasso
end Go.Proofs.Ytbeljjalfhogdaa
