/- A package variable that a row names reads behind a call as it did, where below the heap's old size nothing has turned. Conditions: none. -/
import Derived.Carry
import Derived.ChangeOld
import Derived.ChangeVars
namespace Go.Proofs.YthdbkknbbppfnaaDoor
open Go.RowKit Go.ChangeShapes

theorem var?_next {P : Program} {W W' : World} (hb : Below W.heap.size W W') {n : String} {cs : Array Value} (h : W.var? P n = some cs) : W'.var? P n = some cs := by
  unfold World.var? at h ⊢
  cases hn : P.globalNamed n with
  | none => rw [hn] at h; cases h
  | some g =>
    rw [hn] at h
    simp only [Option.bind_some] at h ⊢
    have hg : g < W.heap.size := by
      cases hh : W.heap[g]? with
      | none => rw [hh] at h; cases h
      | some o => exact (Array.getElem?_eq_some_iff.1 hh).1
    rw [hb.block g hg]
    exact h

theorem vars_next1 {H : Type} {enc : TypeId × Value → H} {P : Program} (hl : laidOutB P = true) {n : String} {g : Nat} {t : TypeId} (hg : P.globalNamed n = some g) (ht : (P.globals[g]?).map (·.type) = some t) (hr : P.readableRec t = true)
    (hrow : t < P.types.size) {W W' : World} (hb : Below W.heap.size W W') {gs : List (DataW H)} {ps : List MemPlace} (h : DataW.TrodVars enc P W (fun _ => true) [n] gs ps) :
    DataW.TrodVars enc P W' (fun b => decide (b < W.heap.size)) [n] gs ps := by
  have hlt := h.lt
  obtain ⟨g', t', cs, fuel, d, p, rfl, h1, h2, h3, h4, rfl⟩ := trodVars_one h
  obtain rfl := Option.some.inj (hg.symm.trans h1)
  obtain rfl := Option.some.inj (ht.symm.trans h2)
  have hp : ∀ x ∈ p, x.block < W.heap.size := fun x hx => hlt x (by simp [hx])
  obtain ⟨m, hm⟩ := WideElems.Trod_stays (v := .agg cs) hl hr hrow ⟨fuel, h4⟩ (fun x hx => hb.same (hp x hx)) (sp' := fun b => decide (b < W.heap.size)) (fun x hx => by simpa using hp x hx)
  exact trodVars_mk1 h1 h2 (var?_next hb h3) hm
end Go.Proofs.YthdbkknbbppfnaaDoor
