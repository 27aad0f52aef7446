/- Arguments as they come in: a value that reads as data of a struct of two slices of numbers. Conditions: none. -/
import Derived.Test.YtdmieedfddgmjaaStatePair
namespace Go.Proofs.Ytdmieedfddgmjaa
open Go.RowKit
namespace State

theorem slice_shape {H : Type} {enc : TypeId × Value → H} {P : Program} {w : World} {base : Nat} {spare : Nat → Bool} {held : Bool} {S I : TypeId} (hS : P.underlying S = some (.slice I)) {fuel : Nat} {c : Value} {x : DataW H × List MemPlace} (h : DataW.trod enc P w base spare held fuel S [c] = some x) : ∃ a n k, c = .slice a n k := by
  rcases DataW.trod_slice hS h with ⟨hc, _⟩ | ⟨a', len', cap', elems, rest, m, hm, hc, _⟩
  · simp at hc; exact ⟨_, _, _, hc⟩
  · simp at hc; exact ⟨_, _, _, hc⟩
theorem pair_read {H : Type} {enc : TypeId × Value → H} {P : Program} {w : World} {base : Nat} {spare : Nat → Bool} {held : Bool} {T S I : TypeId} {f0 f1 : Field} (hT : P.underlying T = some (.struct #[f0, f1])) (t0 : f0.type = S) (o0 : f0.offset = 0) (t1 : f1.type = S) (o1 : f1.offset = 1)
    (hS : P.underlying S = some (.slice I)) (hI : P.underlying I = some (.int .i64)) (cI : P.cellsOf I = 1) (cS : P.cellsOf S = 1) (cT : P.cellsOf T = 2)
    {fuel : Nat} {cs : List Value} {x : DataW H × List MemPlace} (h : DataW.trod enc P w base spare held fuel T cs = some x) : ∃ l m, PairIn Any w l m (.agg cs.toArray) := by
  obtain ⟨xs, n, rfl, _, hl, hlen, hf⟩ := DataW.trod_struct hT h
  rw [cT] at hl
  match cs, hl with
  | [c0, c1], _ =>
    have q0 := hf 0 f0 rfl
    have q1 := hf 1 f1 rfl
    rw [t0, o0, cS] at q0
    rw [t1, o1, cS] at q1
    simp only [List.drop_zero, List.take_succ_cons, List.take_zero, List.drop_succ_cons] at q0 q1
    obtain ⟨y0, e0⟩ : ∃ y, xs[0]? = some y := ⟨_, List.getElem?_eq_getElem (by rw [hlen]; exact Nat.zero_lt_two)⟩
    obtain ⟨y1, e1⟩ : ∃ y, xs[1]? = some y := ⟨_, List.getElem?_eq_getElem (by rw [hlen]; exact Nat.one_lt_two)⟩
    rw [e0] at q0
    rw [e1] at q1
    obtain ⟨a0, n0, k0, rfl⟩ := slice_shape hS q0
    obtain ⟨a1, n1, k1, rfl⟩ := slice_shape hS q1
    obtain ⟨l, rfl, c2, c3, hl⟩ := ints_read hS hI cI q0
    obtain ⟨m, rfl, d2, d3, hm⟩ := ints_read hS hI cI q1
    exact ⟨l, m, a0, a1, k0, k1, rfl, hl, hm, c2, c3, d2, d3⟩
end State
end Go.Proofs.Ytdmieedfddgmjaa
