/- The reference's DrawFormatExpr: some small tree. Conditions: none. -/
import Derived.Test.YtplmjliaochepaaDoorExprDraws
namespace Go.Proofs.YtplmjliaochepaaDoor
open Go.RowKit
namespace Expr

set_option maxRecDepth 100000 in
set_option maxHeartbeats 1000000 in
theorem drawFormatExpr_any (w : World) (a : Option Addr) (len cap : Nat) (hb : ByteArg w a len cap) : Calls Tryd.prog 4 #[.slice a len cap] w (RetP (Drawn w) w) := by
  go_enter Tryd.func4, Tryd.ntmps4
  go_wp2_with fail
  refine (drawValid_any _ a len cap (hb.next (below_alloc _ _))).mono ?_
  rintro e w3 ⟨v, rfl, ⟨t', hn', hnt⟩, hb1⟩
  have c2 := box3_next hb1 (box3_new w (.int .i64 0) (.int .i64 0) (.slice none 0 0) 25)
  have B1 := below_next (below_alloc w _) hb1
  obtain ⟨a2, n2, hv⟩ := TrIn_shape hn'.any
  generalize t'.kids.length = m2 at hv
  generalize hk : t'.kind = k at hv
  generalize hw : t'.val = u at hv
  subst hv
  have HN := hid hn'
  clear hb1 hn'
  go_wp2_with fail
  refine bodyPost_ret (v := .agg #[.int .i64 k, .int .i64 u, .slice a2 m2 n2]) (by simp [results, Tryd.results4, go_sem, c2]) rfl ?_
  have HN' := HN.out
  simp only [World.size_alloc] at HN'
  exact RetP.mk ⟨t', (HN'.keep (((Keep.set _ (by simp) _).trans (Keep.set _ (by simp) _)).trans (Keep.set _ (by simp) _))).mono (by omega), by omega⟩ (by repeat (first | exact Below.refl _ _ | assumption | refine below_a ?_ _ | refine below_o ?_ _ | refine below_d ?_ | refine below_n ?_ _ | refine below_s ?_ (by first | (simp; done) | (simp; omega) | omega) _))

end Expr
end Go.Proofs.YtplmjliaochepaaDoor
