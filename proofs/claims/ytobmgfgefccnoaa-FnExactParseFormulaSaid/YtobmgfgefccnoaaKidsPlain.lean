/- Plain: the nodes below a valid tree are valid. No program here. -/
import Derived.Test.YtobmgfgefccnoaaValidPlain
namespace Go.Proofs.Ytobmgfgefccnoaa
namespace Lang
variable (L : Lang)
mutual
theorem shape_mono : ∀ (t : Tr) (d : Int), L.shape t d = true → L.shape t (d + 1) = true
  | .mk k v kids, d, h => by
    simp only [shape, Bool.and_eq_true, decide_eq_true_eq] at h ⊢
    have := shapeL_mono kids (d - 1) h.2.2
    rw [show d - 1 + 1 = d + 1 - 1 by omega] at this
    exact ⟨by omega, h.2.1, this⟩
theorem shapeL_mono : ∀ (l : List Tr) (d : Int), L.shapeL l d = true → L.shapeL l (d + 1) = true
  | [], _, _ => rfl
  | t :: ts, d, h => by
    simp only [shapeL, Bool.and_eq_true] at h ⊢
    exact ⟨shape_mono t d h.1, shapeL_mono ts d h.2⟩
end
theorem shapeL_mem {t : Tr} {d : Int} : ∀ {l : List Tr}, L.shapeL l d = true → t ∈ l → L.shape t d = true
  | u :: us, h, hm => by
    simp only [shapeL, Bool.and_eq_true] at h
    cases hm with
    | head => exact h.1
    | tail _ hm => exact shapeL_mem h.2 hm
theorem valid_kid {k v : Int} {kids : List Tr} {u : Tr} (h : L.valid (.mk k v kids) = true) (hu : u ∈ kids) : L.valid u = true := by
  simp only [valid, shape, nodes, Bool.and_eq_true, decide_eq_true_eq] at h ⊢
  have h1 := L.shape_mono u (6 - 1) (L.shapeL_mem h.1.2.2 hu)
  have h2 := nodes_mem hu
  have h3 : 1 + nodesL kids ≤ L.N := of_decide_eq_true h.2
  exact ⟨h1, by omega⟩
theorem size_valid {t : Tr} (h : L.valid t = true) : L.size t = nodes t := by rw [size, if_pos h]
end Lang
end Go.Proofs.Ytobmgfgefccnoaa
