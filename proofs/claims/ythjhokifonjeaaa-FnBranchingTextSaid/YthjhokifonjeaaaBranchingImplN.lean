/- The program's BranchingValid: what it returns, for every tree. Conditions: none. -/
import Derived.Test.YthjhokifonjeaaaBranchingImplV
namespace Go.Proofs.Ythjhokifonjeaaa
open Go.RowKit
namespace Branching
set_option maxHeartbeats 400000 in
theorem valid_any (t : Tr) (w : World) (x : Value) (hx : TrIn Any w t x) : Calls Try.prog 37 #[x] w (Ret (.bool (branL.valid t)) w) := by
  have hx0 := hx
  obtain ⟨a, c, rfl⟩ := TrIn_shape hx
  have E := hid (branL.wk_valid t)
  go_enter Try.func37, Try.ntmps37
  go_wp2_with fail
  refine (wk_any t _ _ (w.heap.size + 1) 1 0 (TrIn_alloc (TrIn_alloc (TrIn_mono (fun b hb => by omega) (TrIn_old hx)) _) _) (by omega) (by omega) (by omega) (by omega) (by simp [go_sem]) (by simp [go_sem])).mono ?_
  rintro e w' ⟨rfl, hu⟩
  go_wp2_with fail
  go_ret
  exact Ret.mk (bool_val E.out) (hu.new (by repeat (first | exact Below.refl _ _ | assumption | refine below_a ?_ _ | refine below_o ?_ _ | refine below_d ?_ | refine below_n ?_ _ | refine below_s ?_ (by first | (simp; done) | (simp; omega) | omega) _)) (by omega))

end Branching
end Go.Proofs.Ythjhokifonjeaaa
