/- Arguments as they come in: a value that reads as data of a struct of four numbers. Conditions: none. -/
import Derived.Test.YtchlpeflfiecdaaArgTr
namespace Go.Proofs.Ytchlpeflfiecdaa
open Go.RowKit
theorem step_read {H : Type} {enc : TypeId × Value → H} {P : Program} {w : World} {base : Nat} {spare : Nat → Bool} {held : Bool} {T I : TypeId} {f0 f1 f2 f3 : Field} (hT : P.underlying T = some (.struct #[f0, f1, f2, f3])) (t0 : f0.type = I) (o0 : f0.offset = 0) (t1 : f1.type = I) (o1 : f1.offset = 1) (t2 : f2.type = I) (o2 : f2.offset = 2) (t3 : f3.type = I) (o3 : f3.offset = 3)
    (hI : P.underlying I = some (.int .i64)) (cI : P.cellsOf I = 1) (cT : P.cellsOf T = 4)
    {fuel : Nat} {cs : List Value} {x : DataW H × List MemPlace} (h : DataW.trod enc P w base spare held fuel T cs = some x) : ∃ p e q f : Int, Value.agg cs.toArray = .agg #[.int .i64 p, .int .i64 e, .int .i64 q, .int .i64 f] := by
  obtain ⟨xs, n, rfl, _, hl, hlen, hf⟩ := DataW.trod_struct hT h
  rw [cT] at hl
  match cs, hl with
  | [c0, c1, c2, c3], _ =>
    have q0 := hf 0 f0 rfl
    have q1 := hf 1 f1 rfl
    have q2 := hf 2 f2 rfl
    have q3 := hf 3 f3 rfl
    rw [t0, o0, cI] at q0
    rw [t1, o1, cI] at q1
    rw [t2, o2, cI] at q2
    rw [t3, o3, cI] at q3
    simp only [List.drop_zero, List.take_succ_cons, List.take_zero, List.drop_succ_cons] at q0 q1 q2 q3
    have hx : ∀ i, i < 4 → ∃ y, xs[i]? = some y := fun i hi => ⟨_, List.getElem?_eq_getElem (by rw [hlen]; exact hi)⟩
    obtain ⟨y0, e0⟩ := hx 0 (by omega)
    obtain ⟨y1, e1⟩ := hx 1 (by omega)
    obtain ⟨y2, e2⟩ := hx 2 (by omega)
    obtain ⟨y3, e3⟩ := hx 3 (by omega)
    rw [e0] at q0
    rw [e1] at q1
    rw [e2] at q2
    rw [e3] at q3
    obtain ⟨k0, hk0, _⟩ := DataW.trod_int hI q0
    obtain ⟨k1, hk1, _⟩ := DataW.trod_int hI q1
    obtain ⟨k2, hk2, _⟩ := DataW.trod_int hI q2
    obtain ⟨k3, hk3, _⟩ := DataW.trod_int hI q3
    simp only [List.cons.injEq, and_true] at hk0 hk1 hk2 hk3
    subst hk0 hk1 hk2 hk3
    exact ⟨_, _, _, _, rfl⟩
end Go.Proofs.Ytchlpeflfiecdaa
