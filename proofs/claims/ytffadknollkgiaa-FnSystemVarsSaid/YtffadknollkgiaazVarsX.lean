/- ExprVars, of the program and of the reference: what it returns, for every expression. Conditions: those of each contract. -/
import Derived.Test.YtffadknollkgiaazVarsE
import Derived.Test.YtffadknollkgiaaJS3
import Derived.Test.YtffadknollkgiaaJS2
import Derived.Deep.RegionHeld3
set_option linter.unusedVariables false
set_option linter.unusedSimpArgs false
namespace Go.Proofs.Ytffadknollkgiaa
open Go.RowKit
namespace Expr

def varsB (t : Tr) : List Bool := if exprL.valid t = true then [occT 0 t, occT 1 t, occT 2 t] else []
theorem varsB_len (t : Tr) : (varsB t).length ≤ 1000 := by unfold varsB; split <;> simp
theorem three_new (w : World) (e : TypeId) : Three (w.alloc (.cells (zerosB 3) e)) w.heap.size (fun _ => false) :=
  Row.congr (row_new (cs := zerosB 3) (n := 3) (by rw [zerosB, size_madeCells]) e) fun i hi => by
    match i, hi with
    | 0, _ => simp [zerosB, madeCells, Array.getD]
    | 1, _ => simp [zerosB, madeCells, Array.getD]
    | 2, _ => simp [zerosB, madeCells, Array.getD]
theorem Three.newV {w : World} {R B c : Nat} {t : Tr} (h : Three w R (occN (fun _ => false) t)) (hv : exprL.valid t = true) (hB : B ≤ R) (hc : 3 ≤ c) (hc2 : c ≤ maxLen) : NewV B ((varsB t).map Value.bool) (.slice (some ⟨R, 0, none⟩) 3 c) w := by
  have e : varsB t = [occT 0 t, occT 1 t, occT 2 t] := by simp [varsB, hv]
  rw [e]
  refine ⟨_, c, [R], rfl, hc, hc2, .inr ⟨R, rfl, rfl, Row.congr h fun i hi => ?_⟩, by simpa using hB⟩
  match i, hi with
  | 0, _ => simp [occN]
  | 1, _ => simp [occN]
  | 2, _ => simp [occN]

set_option maxRecDepth 100000 in
set_option maxHeartbeats 1000000 in
theorem vars_any (t : Tr) (w : World) (x : Value) (hx : TrIn Any w t x) : Calls Try.prog 56 #[x] w (RetP (NewV w.heap.size ((varsB t).map Value.bool)) w) := by
  have hx0 := hx
  have hmk : ∀ w : World, (Instr.makeSlice 44 (.int .i64 3) (.int .i64 3)).run Try.prog w = .ok (.slice (some ⟨w.heap.size, 0, none⟩) 3 3) (w.alloc (.cells (zerosB 3) 4)) := make_bools 3 (by omega)
  obtain ⟨a, c, rfl⟩ := TrIn_shape hx
  cases hv : exprL.valid t with
  | false =>
    have E := hid (show varsB t = [] by simp [varsB, hv])
    go_enter Try.func56, Try.ntmps56
    go_wp2_with fail
    refine (valid_any t _ _ (TrIn_alloc hx _)).mono ?_
    rintro e w1 ⟨rfl, hb⟩
    rw [hv]
    replace hb := below_next (below_alloc _ _) hb
    clear hv
    go_wp2_with fail
    go_ret
    exact RetP.mk (by rw [E.out]; exact NewV.nil _ _ _ (by simp) _) (by repeat (first | exact Below.refl _ _ | assumption | refine below_a ?_ _ | refine below_o ?_ _ | refine below_d ?_ | refine below_n ?_ _ | refine below_s ?_ (by first | (simp; done) | (simp; omega) | omega) _))
  | true =>
    have HV := hid hv
    have HS := hid (show exprL.shape t (6 : Nat) = true by rw [Lang.valid, Bool.and_eq_true] at hv; exact hv.1)
    go_enter Try.func56, Try.ntmps56
    go_wp2_with fail
    refine (valid_any t _ _ (TrIn_alloc hx _)).mono ?_
    rintro e w1 ⟨rfl, hb⟩
    rw [hv]
    have b1 := box3_next hb (box3_new ..)
    replace hb := below_next (below_alloc _ _) hb
    clear hv
    obtain ⟨p0, p1, p2, p3, p4⟩ := b1
    have hx1 := TrIn_below hb (TrIn_old hx)
    have hT := hid (three_new w1 4)
    go_wp2_with fail
    refine (vb_any t 6 _ _ w1.heap.size 3 _ HS.out (TrIn_mono (fun b hb => by omega) (TrIn_below (below_alloc _ _) hx1)) hT.out (by omega) (by unfold maxLen; omega)).mono ?_
    rintro e w2 ⟨rfl, h3, ho⟩
    have hfin := hid (And.intro h3 (ho.new (below_next hb (below_alloc w1 _)) (fun b h => by simp at h; omega)))
    clear h3 ho
    go_wp2_with fail
    go_ret
    exact RetP.mk (hfin.out.1.newV HV.out (by omega) (by omega) (by unfold maxLen; omega)) hfin.out.2
end Expr
end Go.Proofs.Ytffadknollkgiaa
