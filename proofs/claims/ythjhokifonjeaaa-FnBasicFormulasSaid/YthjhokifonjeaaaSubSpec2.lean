/- The reference's Subformulas. Conditions: those of each contract. -/
import Derived.Test.YthjhokifonjeaaaSubSpec
import Derived.Test.YthjhokifonjeaaaFormulaSpecVB
namespace Go.Proofs.Ythjhokifonjeaaa
open Go.RowKit
namespace Formula

theorem OwnRow.empty {B : Nat} {w : World} (e : TypeId) (h : B ≤ w.heap.size) : OwnRow B e (.slice (some ⟨w.heap.size, 0, none⟩) 0 0) [] (w.alloc (.cells #[] e)) :=
  ⟨[], [], ⟨rfl, .inr ⟨w.heap.size, 0, #[], rfl, h, by show (w.heap.push _)[w.heap.size]? = _; simp, Nat.le_refl _, Nat.zero_le _, rfl, rfl⟩⟩, (TrsOwn_nil ..).2 rfl, by simp⟩
/-- the subformulas of a valid formula; none of others -/
def subsV (t : Tr) : List Tr := if formL.valid t = true then subsT [] t else []
def RowPost (B : Nat) (l : List Tr) (w : World) (e : Ending) (w' : World) : Prop := ∃ v, e = .returned v ∧ OwnRow B 25 v l w' ∧ Below w.heap.size w w'

set_option maxHeartbeats 1000000 in
theorem specSubs_any (t : Tr) (w : World) (x : Value) (hx : TrIn Any w t x) (hs : Small t) : Calls Try.prog 16 #[x] w (RowPost w.heap.size (subsV t) w) := by
  have hx0 := hx
  obtain ⟨a, c, rfl⟩ := TrIn_shape hx
  cases hv : formL.valid t with
  | false =>
    have E := hid (show subsV t = [] by simp [subsV, hv])
    go_enter Try.func16, Try.ntmps16
    go_wp2_with fail
    refine (specValid_any t _ _ (TrIn_alloc hx _)).mono ?_
    rintro e w1 ⟨rfl, hb⟩
    rw [hv]
    clear hv
    go_wp2_with fail
    go_ret
    refine ⟨_, rfl, ?_, ?_⟩
    · rw [E.out]; exact OwnRow.empty _ (by have := hb.size; simp at this; omega)
    · exact below_next (below_next (below_alloc _ _) hb) (below_alloc _ _)
  | true =>
    have E := hid (show subsV t = subsT [] t by simp [subsV, hv])
    have hn : nodes t ≤ 12 := by
      rw [Lang.valid, Bool.and_eq_true, decide_eq_true_eq, formL_N] at hv
      exact hv.2
    go_enter Try.func16, Try.ntmps16
    go_wp2_with fail
    refine (specValid_any t _ _ (TrIn_alloc hx _)).mono ?_
    rintro e w1 ⟨rfl, hb⟩
    rw [hv]
    clear hv
    have b3 := box3_next hb (box3_new ..)
    have B := below_next (below_alloc _ _) hb
    clear hb
    obtain ⟨p0, p1, p2, p3, _⟩ := b3
    go_wp2_with fail
    refine (ssub_any t w.heap.size w1 [] _ _ (OwnRow.nil _ _ _) B.size (TrIn_frame (p := (· < w.heap.size)) (q := (· < w.heap.size)) (fun b hb _ => ⟨hb, B.block b hb⟩) |>.1 t _ (TrIn_old hx)) (by simp; omega) hs).mono ?_
    rintro e w2 ⟨v2, rfl, ho, hoff, _⟩
    have hB2 : Below w.heap.size w w2 := B.trans ⟨hoff.os, hoff.tape, hoff.output, hoff.size, fun b hb => hoff.block b (Nat.lt_of_lt_of_le hb B.size) (by simp [Value.ownBlock])⟩
    clear hoff p0 p1 p2 p3
    go_wp2_with fail
    go_ret
    exact ⟨_, rfl, by rw [E.out]; exact ho, hB2⟩
end Formula
end Go.Proofs.Ythjhokifonjeaaa
