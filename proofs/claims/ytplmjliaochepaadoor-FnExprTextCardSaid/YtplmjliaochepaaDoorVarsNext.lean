/- A package variable that a row names reads behind a call as it did, where below the heap's old size nothing has turned. Conditions: none. -/
import Derived.Carry
import Derived.ChangeOld
import Derived.ChangeVars
namespace Go.Proofs.YtplmjliaochepaaDoor
open Go.RowKit Go.ChangeShapes

theorem var?_next {P : Program} {W W' : World} (hb : Below W.heap.size W W') {n : String} {cs : Array Value} (h : W.var? P n = some cs) : W'.var? P n = some cs := by
  unfold World.var? at h ⊢
  cases hn : P.globalNamed n with
  | none => rw [hn] at h; cases h
  | some g =>
    rw [hn] at h
    simp only [Option.bind_some] at h ⊢
    have hg : g < W.heap.size := by
      cases hh : W.heap[g]? with
      | none => rw [hh] at h; cases h
      | some o => exact (Array.getElem?_eq_some_iff.1 hh).1
    rw [hb.block g hg]
    exact h

/-- one closed fact: each named variable's type can be read and is a row of the table -/
def rowed (P : Program) (ns : List String) : Bool := ns.all fun n => match P.globalNamed n with
  | none => true
  | some g => match (P.globals[g]?).map (·.type) with
    | none => true
    | some t => P.readableRec t && decide (t < P.types.size)

theorem vars_next {H : Type} {enc : TypeId × Value → H} {P : Program} (hl : laidOutB P = true) {W W' : World} (hb : Below W.heap.size W W') : ∀ {ns : List String} {gs : List (DataW H)} {ps : List MemPlace},
    rowed P ns = true → DataW.TrodVars enc P W (fun _ => true) ns gs ps → DataW.TrodVars enc P W' (fun b => decide (b < W.heap.size)) ns gs ps
  | [], [], _, _, h => h
  | [], _ :: _, _, _, h => absurd h (by intro h; cases h)
  | _ :: _, [], _, _, h => absurd h (by intro h; cases h)
  | n :: ns, d :: ds, ps, hv, h => by
    have hlt := h.lt
    obtain ⟨g, t, cs, fuel, p, q, h1, h2, h3, h4, hs, e⟩ := h
    simp only [rowed, List.all_cons, Bool.and_eq_true] at hv
    obtain ⟨hv1, hv2⟩ := hv
    rw [h1] at hv1
    simp only at hv1
    rw [h2] at hv1
    simp only [Bool.and_eq_true, decide_eq_true_eq] at hv1
    have hp : ∀ x ∈ p, x.block < W.heap.size := fun x hx => hlt x (by rw [e]; simp [hx])
    obtain ⟨m, hm⟩ := WideElems.Trod_stays (v := .agg cs) hl hv1.1 hv1.2 ⟨fuel, h4⟩ (fun x hx => hb.same (hp x hx)) (sp' := fun b => decide (b < W.heap.size)) (fun x hx => by simpa using hp x hx)
    exact ⟨g, t, cs, m, p, q, h1, h2, var?_next hb h3, hm, vars_next hl hb (by simpa [rowed] using hv2) hs, e⟩

theorem vars_next1 {H : Type} {enc : TypeId × Value → H} {P : Program} (hl : laidOutB P = true) {n : String} {g : Nat} {t : TypeId} (hg : P.globalNamed n = some g) (ht : (P.globals[g]?).map (·.type) = some t) (hr : P.readableRec t = true)
    (hrow : t < P.types.size) {W W' : World} (hb : Below W.heap.size W W') {gs : List (DataW H)} {ps : List MemPlace} (h : DataW.TrodVars enc P W (fun _ => true) [n] gs ps) :
    DataW.TrodVars enc P W' (fun b => decide (b < W.heap.size)) [n] gs ps := by
  have hlt := h.lt
  obtain ⟨g', t', cs, fuel, d, p, rfl, h1, h2, h3, h4, rfl⟩ := trodVars_one h
  obtain rfl := Option.some.inj (hg.symm.trans h1)
  obtain rfl := Option.some.inj (ht.symm.trans h2)
  have hp : ∀ x ∈ p, x.block < W.heap.size := fun x hx => hlt x (by simp [hx])
  obtain ⟨m, hm⟩ := WideElems.Trod_stays (v := .agg cs) hl hr hrow ⟨fuel, h4⟩ (fun x hx => hb.same (hp x hx)) (sp' := fun b => decide (b < W.heap.size)) (fun x hx => by simpa using hp x hx)
  exact trodVars_mk1 h1 h2 (var?_next hb h3) hm
end Go.Proofs.YtplmjliaochepaaDoor
