/- Plain: what is left of a number is the number less the nodes. No program here. -/
import Derived.Test.YtchlpeflfiecdaaValidPlain
namespace Go.Proofs.Ytchlpeflfiecdaa
mutual
theorem szT_eq : ∀ (t : Tr) (left : Int), 0 ≤ szT t left → szT t left = left - nodesL t.kids
  | .mk k v kids, left, h => by
    simp only [szT, Tr.kids] at h ⊢
    split at h
    · omega
    · rename_i hn
      rw [if_neg hn]
      have := szL_eq kids (left - kids.length) (by omega)
      omega
theorem szL_eq : ∀ (l : List Tr) (left : Int), 0 ≤ szL l left → szL l left = left + l.length - nodesL l
  | [], left, h => by
    simp only [szL, nodesL] at h ⊢
    split at h
    · omega
    · rename_i hn; rw [if_neg hn]; simp
  | t :: ts, left, h => by
    simp only [szL, nodesL] at h ⊢
    split at h
    · omega
    · rename_i hn
      rw [if_neg hn]
      by_cases h0 : szT t left < 0
      · rw [szL_neg _ _ h0] at h; omega
      · have h1 := szL_eq ts _ h
        have h2 := szT_eq t left (by omega)
        have h3 : nodes t = 1 + nodesL t.kids := by cases t; simp [nodes, Tr.kids]
        rw [h1, h2, h3]
        simp only [List.length_cons]
        omega
end
theorem nodesL_kids (t : Tr) : nodes t = 1 + nodesL t.kids := by cases t; simp [nodes, Tr.kids]
end Go.Proofs.Ytchlpeflfiecdaa
