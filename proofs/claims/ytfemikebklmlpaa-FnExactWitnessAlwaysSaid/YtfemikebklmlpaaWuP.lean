/- Plain: what WitnessUntil returns: the way to the first goal that the search meets. No program here. -/
import Derived.Test.YtfemikebklmlpaaBfsP
import Derived.Test.YtfemikebklmlpaaPathS
import Derived.Test.YtfemikebklmlpaaGrV
namespace Go.Proofs.Ytfemikebklmlpaa
set_option linter.unusedVariables false
set_option linter.unusedSimpArgs false
namespace Bfs
open Gr

/-- the way to n, read off its predecessors -/
def back (par : Nat → Int) : Nat → Nat → List Nat
  | 0, n => [n]
  | f + 1, n => if par n < 0 then [n] else back par f (par n).toNat ++ [n]
theorem Chain.back {par : Nat → Int} {n : Nat} {l : List Nat} (h : Chain par n l) : ∀ f, l.length ≤ f + 1 → back par f n = l := by
  induction h with
  | @root n h =>
    intro f _
    cases f with
    | zero => rfl
    | succ f => show (if par n < 0 then [n] else _) = _; rw [if_pos (by omega)]
  | @step n u l h k ih =>
    intro f hf
    have := k.pos
    rw [List.length_append, List.length_singleton] at hf
    obtain ⟨f, rfl⟩ : ∃ g, f = g + 1 := ⟨f - 1, by omega⟩
    show (if par n < 0 then [n] else Bfs.back par f (par n).toNat ++ [n]) = _
    rw [if_neg (by omega), h, Int.toNat_natCast, ih f (by omega)]
def wuL (adj : Nat → List Nat) (N s : Nat) (goal : Nat → Bool) : List Nat := match (bfs adj s N).q.find? goal with
  | none => []
  | some n => back (bfs adj s N).par N n
section
variable {N s : Nat} {adj : Nat → List Nat}
theorem bfs_last (hs : s < N) (hA : ∀ u, u < N → ∀ n, n ∈ adj u → n < N) (j : Nat) : Ext (bfs adj s j) (bfs adj s N) := by
  by_cases e : j ≤ N
  · have := bfs_ext (s := s) (adj := adj) hs hA j (N - j)
    rw [show j + (N - j) = N by omega] at this; exact this
  · obtain ⟨i, h1, h2⟩ := bfs_end (s := s) (adj := adj) hs hA
    rw [bfs_done (Nat.le_of_eq h1) j (by omega), bfs_done (Nat.le_of_eq h1) N h2]; exact Ext.refl _
theorem wu_at (hs : s < N) (hA : ∀ u, u < N → ∀ n, n ∈ adj u → n < N) {goal : Nat → Bool} {j i n : Nat} {l : List Nat} (hj : j ≤ (bfs adj s j).q.length) (hn : (bfs adj s j).q[i]? = some n) (hg : goal n = true) (hb : ∀ (k m : Nat), k < i → (bfs adj s j).q[k]? = some m → goal m = false)
    (hl : Chain (bfs adj s j).par n l) : wuL adj N s goal = l := by
  have hI := bfs_inv hs hA j hj
  have hE := bfs_last hs hA j
  have hil : i < (bfs adj s j).q.length := (List.getElem?_eq_some_iff.1 hn).1
  obtain ⟨l2, c1, _, c3, c4⟩ := hI.chain i n hn
  obtain rfl := hl.det c1
  have hlen := hI.len
  have hn2 := hE.at hn
  obtain ⟨hil2, hn3⟩ := List.getElem?_eq_some_iff.1 hn2
  have hf : (bfs adj s N).q.find? goal = some n := by
    rw [List.find?_eq_some_iff_getElem]
    refine ⟨hg, i, hil2, hn3, fun k hk => ?_⟩
    have hk2 : (bfs adj s j).q[k]? = some (bfs adj s j).q[k] := List.getElem?_eq_getElem (by omega)
    have h3 := hE.at hk2
    obtain ⟨_, h4⟩ := List.getElem?_eq_some_iff.1 h3
    rw [h4, hb k _ hk hk2]; rfl
  unfold wuL
  rw [hf]
  exact (hl.ext fun x hx => (hE.2 x (c4 x hx)).1).back N (by omega)
theorem wu_none (hs : s < N) (hA : ∀ u, u < N → ∀ n, n ∈ adj u → n < N) {goal : Nat → Bool} {k : Nat} (hk : (bfs adj s k).q.length = k) (hb : ∀ (i m : Nat), (bfs adj s k).q[i]? = some m → goal m = false) : wuL adj N s goal = [] := by
  have hI := bfs_inv hs hA k (Nat.le_of_eq hk.symm)
  have hlen := hI.len
  have : (bfs adj s N).q.find? goal = none := by
    rw [bfs_done (Nat.le_of_eq hk) N (by omega), List.find?_eq_none]
    intro x hx
    obtain ⟨i, hi⟩ := List.mem_iff_getElem?.1 hx
    rw [hb i x hi]; simp
  unfold wuL
  rw [this]
theorem wu_path (hs : s < N) (hA : ∀ u, u < N → ∀ n, n ∈ adj u → n < N) (hN : N ≤ 60) {j i n : Nat} (hj : j ≤ (bfs adj s j).q.length) (hn : (bfs adj s j).q[i]? = some n) : ∃ l, Chain (bfs adj s j).par n l ∧ PathIn N s (bfs adj s j).par l ∧ l.length ≤ i + 1 := by
  have hI := bfs_inv hs hA j hj
  have hil : i < (bfs adj s j).q.length := (List.getElem?_eq_some_iff.1 hn).1
  have hlen := hI.len
  obtain ⟨l, c1, _, c3, c4⟩ := hI.chain i n hn
  refine ⟨l, c1, ⟨fun m hm => hI.lt m (c4 m hm), fun m hm => ?_, by omega⟩, c3⟩
  constructor
  · intro h
    obtain ⟨a, ha⟩ := List.mem_iff_getElem?.1 (c4 m hm)
    by_cases e : a = 0
    · subst e
      rw [hI.fst] at ha
      exact (Option.some.inj ha).symm
    · obtain ⟨_, u, _, _, _, _, h5, _⟩ := hI.par a m (by omega) ha
      omega
  · intro h
    subst h
    exact hI.root.1
end
/-- valid graphs -/
theorem okG_len {g : G2} (h : okG g = true) : (1 ≤ g.states.length ∧ g.states.length ≤ 60) ∧ g.next.length = g.states.length ∧ Good g.next ∧ ∀ r, r ∈ g.next → 1 ≤ r.length ∧ r.length ≤ 60 := by
  unfold okG at h
  simp only [Bool.and_eq_true, decide_eq_true_eq, List.all_eq_true] at h
  obtain ⟨⟨⟨h1, h2⟩, _⟩, h4⟩ := h
  refine ⟨h1, h2, fun r hr x hx => ?_, fun r hr => ?_⟩
  · have := h4 r hr
    unfold rowOk at this
    rw [Bool.and_eq_true] at this
    have := ((dst_spec _ _ _ this.2).1 x hx).1
    omega
  · have := h4 r hr
    unfold rowOk at this
    rw [Bool.and_eq_true] at this
    have h5 := dst_len this.2
    refine ⟨?_, by omega⟩
    have h6 := this.1
    cases r with
    | nil => simp at h6
    | cons => simp
def goalOf (goal : List Bool) (n : Nat) : Bool := goal.getD n false
/-- what WitnessUntil returns -/
def wuT (g : G2) (thr goal : List Bool) (s : Int) : List Nat :=
  if okG g = true ∧ thr.length = g.states.length ∧ goal.length = g.states.length ∧ 0 ≤ s ∧ s < g.states.length then wuL (adjOf (subL g.next thr)) g.states.length s.toNat (goalOf goal) else []
theorem wuT_small (g : G2) (thr goal : List Bool) (s : Int) : (wuT g thr goal s).length ≤ 60 ∧ ∀ n, n ∈ wuT g thr goal s → n < 60 := by
  unfold wuT
  split
  · rename_i h
    obtain ⟨h1, h2, h3, h4, h5⟩ := h
    obtain ⟨⟨k1, k2⟩, k3, k4, k5⟩ := okG_len h1
    have hl : (subL g.next thr).length = g.states.length := by rw [subL_len (by omega), k3]
    have hA := (subL_good (thr := thr) (by omega) k4).adj
    rw [hl] at hA
    have hs : s.toNat < g.states.length := by omega
    generalize g.states.length = N at *
    obtain ⟨k, e1, e2⟩ := bfs_end (s := s.toNat) (adj := adjOf (subL g.next thr)) hs hA
    by_cases hg : ∃ (i m : Nat), (bfs (adjOf (subL g.next thr)) s.toNat k).q[i]? = some m ∧ goalOf goal m = true
    · have hfin : (bfs (adjOf (subL g.next thr)) s.toNat N) = bfs (adjOf (subL g.next thr)) s.toNat k := bfs_done (Nat.le_of_eq e1) N e2
      cases hf : (bfs (adjOf (subL g.next thr)) s.toNat N).q.find? (goalOf goal) with
      | none => unfold wuL; rw [hf]; simp
      | some n =>
        obtain ⟨i, hi⟩ := List.mem_iff_getElem?.1 (List.mem_of_find?_eq_some hf)
        rw [hfin] at hi
        obtain ⟨l, c1, c2, c3⟩ := wu_path hs hA k2 (Nat.le_of_eq e1.symm) hi
        have hil : i < (bfs (adjOf (subL g.next thr)) s.toNat k).q.length := (List.getElem?_eq_some_iff.1 hi).1
        have : wuL (adjOf (subL g.next thr)) N s.toNat (goalOf goal) = l := by
          unfold wuL
          rw [hf, hfin]
          exact c1.back N (by omega)
        rw [this]
        exact ⟨by omega, fun n hn => by have := c2.lt n hn; omega⟩
    · rw [wu_none hs hA e1 fun i m h => by
        cases hb : goalOf goal m with
        | false => rfl
        | true => exact absurd ⟨i, m, h, hb⟩ hg]
      simp
  · simp
end Bfs
end Go.Proofs.Ytfemikebklmlpaa
