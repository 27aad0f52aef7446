/- What a call that draws a tree comes to; small trees. Conditions: none. -/
import Derived.Test.YtffadknollkgiaaDraw
import Derived.Test.YtffadknollkgiaaGrow
import Derived.Test.YtffadknollkgiaaTrPlain
import Derived.Test.YtffadknollkgiaaValidPlain
namespace Go.Proofs.Ytffadknollkgiaa
open Go.RowKit

/-- what a drawing call comes to: a new tree of at most M nodes; at most K picks -/
def DrawPost (B K : Nat) (M : Int) (R p : Nat) (w : World) (e : Ending) (w' : World) : Prop :=
  ∃ v t p', e = .returned v ∧ NewTr w.heap.size t v w' ∧ nodes t ≤ M ∧ But w R w' ∧ Rd B w' R p' ∧ p' ≤ p + K

theorem DrawPost.ret {B K : Nat} {M : Int} {R p p' N : Nat} {w W : World} {t : Tr} {x : Value} (hn : NewTr N t x W) (hN : w.heap.size < N) (hM : nodes t ≤ M) (hb : But w R W) (hr : Rd B W R p') (hp : p' ≤ p + K) (hB : B ≤ w.heap.size) (u0 u1 u2 : Value) :
    DrawPost B K M R p w (.returned x) (((W.setCell ⟨w.heap.size, 0, none⟩ u0).setCell ⟨w.heap.size, 1, none⟩ u1).setCell ⟨w.heap.size, 2, none⟩ u2) :=
  ⟨x, t, p', rfl, (hn.keep (((Keep.set _ hN _).trans (Keep.set _ hN _)).trans (Keep.set _ hN _))).mono (Nat.le_of_lt hN), hM, But.setNew (But.setNew (But.setNew hb (Nat.le_refl _) _) (Nat.le_refl _) _) (Nat.le_refl _) _,
    ((hr.set hB _).set hB _).set hB _, hp⟩

theorem nodesL_snoc : ∀ (l : List Tr) (t : Tr), nodesL (l ++ [t]) = nodesL l + nodes t
  | [], t => by simp [nodesL]
  | u :: us, t => by rw [List.cons_append]; simp only [nodesL]; rw [nodesL_snoc us t]; omega

theorem DrawPost.at {B K : Nat} {M : Int} {R p p' N b : Nat} {w W : World} {t : Tr} {x : Value} (hn : NewTr N t x W) (hN : b < N) (hbw : w.heap.size ≤ b) (hM : nodes t ≤ M) (hb : But w R W) (hr : Rd B W R p') (hp : p' ≤ p + K) (hB : B ≤ w.heap.size) (u0 u1 u2 : Value) :
    DrawPost B K M R p w (.returned x) (((W.setCell ⟨b, 0, none⟩ u0).setCell ⟨b, 1, none⟩ u1).setCell ⟨b, 2, none⟩ u2) :=
  ⟨x, t, p', rfl, (hn.keep (((Keep.set _ hN _).trans (Keep.set _ hN _)).trans (Keep.set _ hN _))).mono (by omega), hM, But.setNew (But.setNew (But.setNew hb hbw _) hbw _) hbw _,
    ((hr.set (Nat.le_trans hB hbw) _).set (Nat.le_trans hB hbw) _).set (Nat.le_trans hB hbw) _, hp⟩
theorem nodes_kids (t : Tr) : nodes t = 1 + nodesL t.kids := by cases t; rfl
mutual
theorem small_nodes : ∀ t : Tr, nodes t ≤ 1048576 → Small t
  | .mk _ _ kids, h => by
    simp only [nodes] at h
    have hl := len_nodes kids
    exact ⟨by omega, smallL_nodes kids (by omega)⟩
theorem smallL_nodes : ∀ l : List Tr, nodesL l ≤ 1048576 → SmallL l
  | [], _ => trivial
  | t :: ts, h => by
    simp only [nodesL] at h
    have h1 := nodesL_pos ts
    have h2 := nodes_pos t
    exact ⟨small_nodes t (by omega), smallL_nodes ts (by omega)⟩
theorem len_nodes : ∀ l : List Tr, (l.length : Int) ≤ nodesL l
  | [] => by simp [nodesL]
  | t :: ts => by
    simp only [nodesL, List.length_cons]
    have h1 := len_nodes ts
    have h2 := nodes_pos t
    omega
end

end Go.Proofs.Ytffadknollkgiaa
