/- Arguments as they come in: a value that reads as data of an edge's type is an edge in memory. Conditions: none. -/
import Derived.Test.YtchlpeflfiecdaaArgTr
import Derived.Test.YtchlpeflfiecdaaEdgeIn
namespace Go.Proofs.Ytchlpeflfiecdaa
open Go.RowKit

section
variable {H : Type} {enc : TypeId × Value → H} {P : Program} {w : World} {base : Nat} {spare : Nat → Bool} {held : Bool}

theorem ed_read {T E S I : TypeId} {f0 f1 f2 f3 f4 f5 g0 g1 g2 : Field} (hT : P.underlying T = some (.struct #[f0, f1, f2, f3, f4, f5])) (t0 : f0.type = I) (o0 : f0.offset = 0) (t1 : f1.type = I) (o1 : f1.offset = 1) (t2 : f2.type = E) (o2 : f2.offset = 2)
    (t3 : f3.type = I) (o3 : f3.offset = 5) (t4 : f4.type = E) (o4 : f4.offset = 6) (t5 : f5.type = I) (o5 : f5.offset = 9)
    (hE : P.underlying E = some (.struct #[g0, g1, g2])) (s0 : g0.type = I) (r0 : g0.offset = 0) (s1 : g1.type = I) (r1 : g1.offset = 1) (s2 : g2.type = S) (r2 : g2.offset = 2)
    (hI : P.underlying I = some (.int .i64)) (hS : P.underlying S = some (.slice E)) (cI : P.cellsOf I = 1) (cS : P.cellsOf S = 1) (cE : P.cellsOf E = 3) (cT : P.cellsOf T = 10)
    {fuel : Nat} {cs : List Value} {x : DataW H × List MemPlace} (h : DataW.trod enc P w base spare held fuel T cs = some x) : ∃ e, EdIn Any w e (.agg cs.toArray) := by
  obtain ⟨xs, n, rfl, _, hl, hlen, hf⟩ := DataW.trod_struct hT h
  rw [cT] at hl
  match cs, hl with
  | [c0, c1, c2, c3, c4, c5, c6, c7, c8, c9], _ =>
    have q0 := hf 0 f0 rfl
    have q1 := hf 1 f1 rfl
    have q2 := hf 2 f2 rfl
    have q3 := hf 3 f3 rfl
    have q4 := hf 4 f4 rfl
    have q5 := hf 5 f5 rfl
    rw [t0, o0, cI] at q0
    rw [t1, o1, cI] at q1
    rw [t2, o2, cE] at q2
    rw [t3, o3, cI] at q3
    rw [t4, o4, cE] at q4
    rw [t5, o5, cI] at q5
    simp only [List.drop_zero, List.take_succ_cons, List.take_zero, List.drop_succ_cons] at q0 q1 q2 q3 q4 q5
    have hx : ∀ i, i < 6 → ∃ y, xs[i]? = some y := fun i hi => ⟨_, List.getElem?_eq_getElem (by rw [hlen]; exact hi)⟩
    obtain ⟨y0, e0⟩ := hx 0 (by omega)
    obtain ⟨y1, e1⟩ := hx 1 (by omega)
    obtain ⟨y2, e2⟩ := hx 2 (by omega)
    obtain ⟨y3, e3⟩ := hx 3 (by omega)
    obtain ⟨y4, e4⟩ := hx 4 (by omega)
    obtain ⟨y5, e5⟩ := hx 5 (by omega)
    rw [e0] at q0
    rw [e1] at q1
    rw [e2] at q2
    rw [e3] at q3
    rw [e4] at q4
    rw [e5] at q5
    obtain ⟨k0, hk0, _, w0⟩ := DataW.trod_int hI q0
    obtain ⟨k1, hk1, _, w1⟩ := DataW.trod_int hI q1
    obtain ⟨k3, hk3, _, w3⟩ := DataW.trod_int hI q3
    obtain ⟨k5, hk5, _, w5⟩ := DataW.trod_int hI q5
    obtain ⟨t, ht⟩ := tr_read hE s0 r0 s1 r1 s2 r2 hI hS cI cS cE n _ _ q2
    obtain ⟨u, hu⟩ := tr_read hE s0 r0 s1 r1 s2 r2 hI hS cI cS cE n _ _ q4
    simp only [List.cons.injEq, and_true] at hk0 hk1 hk3 hk5
    subst hk0 hk1 hk3 hk5
    obtain ⟨a, c, ea⟩ := TrIn_shape ht
    obtain ⟨a', c', eu⟩ := TrIn_shape hu
    rw [ea] at ht
    rw [eu] at hu
    simp only [Value.agg.injEq, List.toArray_eq_iff] at ea eu
    simp at ea eu
    obtain ⟨rfl, rfl, rfl⟩ := ea
    obtain ⟨rfl, rfl, rfl⟩ := eu
    exact ⟨⟨k0, k1, t, k3, u, k5⟩, a, c, a', c', rfl, i64_of_wf w0, i64_of_wf w1, i64_of_wf w3, i64_of_wf w5, ht, hu⟩
end
end Go.Proofs.Ytchlpeflfiecdaa
