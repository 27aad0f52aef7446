/- Plain: what WitnessAlways returns. No program here. -/
import Derived.Test.YtfemikebklmlpaaWuP
import Derived.Test.YtfemikebklmlpaaGfpP
namespace Go.Proofs.Ytfemikebklmlpaa
set_option linter.unusedVariables false
set_option linter.unusedSimpArgs false
namespace Alw
open Gr Bfs Gfp

theorem orb_succ_nodup {adj : Nat → List Nat} {f : Nat → Bool} {s k : Nat} (h : (orbL adj f s k).Nodup) (hn : ∀ i, i < k → orb adj f s i ≠ orb adj f s k) : (orbL adj f s (k + 1)).Nodup := by
  rw [orbL_succ, List.nodup_append]
  refine ⟨h, by simp, fun a ha b hb => ?_⟩
  simp at hb
  subst hb
  obtain ⟨i, hi⟩ := List.mem_iff_getElem?.1 ha
  have hik : i < k := by have := (List.getElem?_eq_some_iff.1 hi).1; rwa [orbL_len] at this
  rw [orbL_at adj f s hik] at hi
  have := Option.some.inj hi
  rw [← this]
  exact hn i hik
def OkA (g : G2) (thr : List Bool) (s : Int) : Prop := okG g = true ∧ thr.length = g.states.length ∧ 0 ≤ s ∧ s < g.states.length ∧ gfp (adjOf g.next) (goalOf thr) s.toNat = true
open Classical in
noncomputable def alwT (g : G2) (thr : List Bool) (s : Int) : List Nat × List Nat :=
  if h : OkA g thr s ∧ ∃ p : Nat × Nat, Trc (adjOf g.next) (gfp (adjOf g.next) (goalOf thr)) s.toNat p.1 p.2 then
    ((orbL (adjOf g.next) (gfp (adjOf g.next) (goalOf thr)) s.toNat (Classical.choose h.2).1).take (Classical.choose h.2).2, (orbL (adjOf g.next) (gfp (adjOf g.next) (goalOf thr)) s.toNat (Classical.choose h.2).1).drop (Classical.choose h.2).2)
  else ([], [])
theorem alwT_yes {g : G2} {thr : List Bool} {s : Int} {k i : Nat} (h : OkA g thr s) (ht : Trc (adjOf g.next) (gfp (adjOf g.next) (goalOf thr)) s.toNat k i) :
    alwT g thr s = ((orbL (adjOf g.next) (gfp (adjOf g.next) (goalOf thr)) s.toNat k).take i, (orbL (adjOf g.next) (gfp (adjOf g.next) (goalOf thr)) s.toNat k).drop i) := by
  have hh : OkA g thr s ∧ ∃ p : Nat × Nat, Trc (adjOf g.next) (gfp (adjOf g.next) (goalOf thr)) s.toNat p.1 p.2 := ⟨h, (k, i), ht⟩
  unfold alwT
  rw [dif_pos hh]
  obtain ⟨e1, e2⟩ := Trc.eq (Classical.choose_spec hh.2) ht
  rw [e1, e2]
theorem alwT_no {g : G2} {thr : List Bool} {s : Int} (h : ¬ OkA g thr s) : alwT g thr s = ([], []) := by
  unfold alwT
  rw [dif_neg fun hh => h hh.1]
/-- the facts of a good argument -/
structure Facts (N s : Nat) (adj : Nat → List Nat) (f : Nat → Bool) : Prop where
  hs : s < N
  hA : ∀ u, u < N → ∀ n, n ∈ adj u → n < N
  orb : ∀ k, Gfp.orb adj f s k < N ∧ f (Gfp.orb adj f s k) = true ∧ (adj (Gfp.orb adj f s k)).find? f = some (Gfp.orb adj f s (k + 1))
theorem Facts.lt {N s : Nat} {adj : Nat → List Nat} {f : Nat → Bool} (h : Facts N s adj f) {k : Nat} (hn : (orbL adj f s k).Nodup) : k ≤ N := by
  have := nodup_le (N := N) hn fun m hm => by
    unfold orbL at hm
    rw [List.mem_map] at hm
    obtain ⟨j, _, rfl⟩ := hm
    exact (h.orb j).1
  rwa [orbL_len] at this
theorem okA_facts {g : G2} {thr : List Bool} {s : Int} (h : OkA g thr s) : Facts g.states.length s.toNat (adjOf g.next) (gfp (adjOf g.next) (goalOf thr)) := by
  obtain ⟨h1, h2, h3, h4, h5⟩ := h
  obtain ⟨k1, k2, k3, k4⟩ := okG_len h1
  have hA : ∀ u, u < g.states.length → ∀ n, n ∈ adjOf g.next u → n < g.states.length := fun u hu n hn => by have := k3.adj u (by omega) n hn; omega
  have hs : s.toNat < g.states.length := by omega
  refine ⟨hs, hA, fun k => ?_⟩
  obtain ⟨a, b, c⟩ := orb_in hs hA h5 (fun j _ hj => (gfp_post _ _ j hj).2) k
  exact ⟨a, b, (c _ rfl).1⟩
theorem alwT_small (g : G2) (thr : List Bool) (s : Int) : ((alwT g thr s).1.length ≤ 60 ∧ ∀ n, n ∈ (alwT g thr s).1 → n < 60) ∧ (alwT g thr s).2.length ≤ 60 ∧ ∀ n, n ∈ (alwT g thr s).2 → n < 60 := by
  by_cases h : OkA g thr s ∧ ∃ p : Nat × Nat, Trc (adjOf g.next) (gfp (adjOf g.next) (goalOf thr)) s.toNat p.1 p.2
  · obtain ⟨h1, ⟨k, i⟩, ht⟩ := h
    rw [alwT_yes h1 ht]
    have hF := okA_facts h1
    have hN := (okG_len h1.1).1.2
    have hk := hF.lt ht.1
    have hm : ∀ n, n ∈ orbL (adjOf g.next) (gfp (adjOf g.next) (goalOf thr)) s.toNat k → n < 60 := fun n hn => by
      unfold orbL at hn
      rw [List.mem_map] at hn
      obtain ⟨j, _, rfl⟩ := hn
      have := (hF.orb j).1; omega
    refine ⟨⟨?_, fun n hn => hm n (List.mem_of_mem_take hn)⟩, ?_, fun n hn => hm n (List.mem_of_mem_drop hn)⟩
    · show (List.take _ _).length ≤ 60
      rw [List.length_take, orbL_len]; omega
    · show (List.drop _ _).length ≤ 60
      rw [List.length_drop, orbL_len]; omega
  · have e : alwT g thr s = ([], []) := by unfold alwT; rw [dif_neg h]
    rw [e]; simp
end Alw
end Go.Proofs.Ytfemikebklmlpaa
