/- Plain: which locations are reached along edges. No program here. -/
import Derived.Test.YtffadknollkgiaaJS11
set_option linter.unusedVariables false
set_option linter.unusedSimpArgs false
namespace Go.Proofs.Ytffadknollkgiaa
namespace Sys

noncomputable def decP (p : Prop) : Bool := @decide p (Classical.propDecidable p)
theorem decP_iff {p : Prop} : decP p = true ↔ p := @decide_eq_true_iff p (Classical.propDecidable p)
/-- a location that is reached -/
inductive Rch (es : List Ed) : Nat → Prop where
  | zero : Rch es 0
  | step (e : Ed) (he : e ∈ es) (h : Rch es e.src.toNat) : Rch es e.dst.toNat
noncomputable def rchB (es : List Ed) (k : Nat) : Bool := decP (Rch es k)
/-- closed under the edges -/
def Clo (es : List Ed) (o : Nat → Bool) : Prop := ∀ e, e ∈ es → o e.src.toNat = true → o e.dst.toNat = true
theorem clo_done {es : List Ed} {o : Nat → Bool} (h0 : o 0 = true) (hs : ∀ k, o k = true → Rch es k) (hc : Clo es o) (k : Nat) : o k = rchB es k := by
  rw [Bool.eq_iff_iff, rchB, decP_iff]
  refine ⟨hs k, fun h => ?_⟩
  induction h with
  | zero => exact h0
  | step e he _ ih => exact hc e he ih
def updB (o : Nat → Bool) (k : Nat) (v : Bool) : Nat → Bool := fun j => if j = k then v else o j
theorem updB_same (o : Nat → Bool) (k : Nat) : updB o k (o k) = o := by
  funext j; unfold updB; split
  · rename_i e; rw [e]
  · rfl
/-- how many edges lead into the set -/
def cntE (es : List Ed) (o : Nat → Bool) : Nat := es.countP fun e => o e.dst.toNat
theorem cntE_le (es : List Ed) (o : Nat → Bool) : cntE es o ≤ es.length := List.countP_le_length
theorem cntE_mono {es : List Ed} {o o' : Nat → Bool} (h : ∀ k, o k = true → o' k = true) : cntE es o ≤ cntE es o' := List.countP_mono_left fun e _ he => h _ he
theorem cntE_lt {es : List Ed} {o o' : Nat → Bool} (h : ∀ k, o k = true → o' k = true) {e : Ed} (he : e ∈ es) (h1 : o e.dst.toNat = false) (h2 : o' e.dst.toNat = true) : cntE es o < cntE es o' := by
  induction es with
  | nil => cases he
  | cons x xs ih =>
    have hm : cntE xs o ≤ cntE xs o' := cntE_mono h
    simp only [cntE, List.countP_cons] at hm ⊢
    cases he with
    | head => rw [h1, h2]; simp; omega
    | tail _ he =>
      have := ih he
      simp only [cntE] at this
      by_cases hx : o x.dst.toNat = true
      · rw [hx, h _ hx]; simp; omega
      · rw [Bool.eq_false_iff.2 hx]; simp; omega
theorem cntE_all {es : List Ed} {o : Nat → Bool} (h : es.length ≤ cntE es o) : Clo es o := by
  have h2 : cntE es o = es.length := Nat.le_antisymm (cntE_le es o) h
  unfold cntE at h2
  rw [List.countP_eq_length] at h2
  exact fun e he _ => h2 e he

/-- one sweep of the program over the edges, behind the first j of them -/
structure RRel (es : List Ed) (o0 : Nat → Bool) (j : Nat) (o : Nat → Bool) : Prop where
  sub : ∀ k, o0 k = true → o k = true
  snd : ∀ k, o k = true → Rch es k
  pr : (o = o0 ∧ ∀ e, e ∈ es.take j → o e.src.toNat = true → o e.dst.toNat = true) ∨ cntE es o0 < cntE es o
theorem RRel.start {es : List Ed} {o : Nat → Bool} (h : ∀ k, o k = true → Rch es k) : RRel es o 0 o := ⟨fun _ h => h, h, .inl ⟨rfl, by simp⟩⟩
theorem RRel.step {es : List Ed} {o0 o : Nat → Bool} {j : Nat} (h : RRel es o0 j o) (hj : j < es.length) : RRel es o0 (j + 1) (updB o es[j].dst.toNat (o es[j].dst.toNat || o es[j].src.toNat)) := by
  have hm : es[j] ∈ es := List.getElem_mem hj
  have htk : es.take (j + 1) = es.take j ++ [es[j]] := by rw [List.take_add_one, List.getElem?_eq_getElem hj]; rfl
  by_cases h1 : o es[j].dst.toNat = true
  · rw [h1, Bool.true_or]
    have e0 : updB o es[j].dst.toNat true = o := by rw [← h1]; exact updB_same _ _
    rw [e0]
    refine ⟨h.sub, h.snd, ?_⟩
    rcases h.pr with ⟨h2, h3⟩ | h2
    · refine .inl ⟨h2, fun e he hs => ?_⟩
      rw [htk] at he
      rcases List.mem_append.1 he with he | he
      · exact h3 e he hs
      · obtain rfl : e = es[j] := by simpa using he
        exact h1
    · exact .inr h2
  · have h1' : o es[j].dst.toNat = false := Bool.eq_false_iff.2 h1
    by_cases h2 : o es[j].src.toNat = true
    · rw [h1', h2, Bool.or_true]
      have hup : ∀ k, o k = true → updB o es[j].dst.toNat true k = true := fun k hk => by unfold updB; split; rfl; exact hk
      refine ⟨fun k hk => hup k (h.sub k hk), fun k hk => ?_, .inr ?_⟩
      · unfold updB at hk
        split at hk
        · rename_i e; rw [e]; exact .step _ hm (h.snd _ h2)
        · exact h.snd k hk
      · have := cntE_lt hup hm h1' (by simp [updB])
        have h4 := cntE_mono (es := es) h.sub
        omega
    · have h2' : o es[j].src.toNat = false := Bool.eq_false_iff.2 h2
      rw [h2', Bool.or_false, updB_same]
      refine ⟨h.sub, h.snd, ?_⟩
      rcases h.pr with ⟨h3, h4⟩ | h3
      · refine .inl ⟨h3, fun e he hs => ?_⟩
        rw [htk] at he
        rcases List.mem_append.1 he with he | he
        · exact h4 e he hs
        · obtain rfl : e = es[j] := by simpa using he
          exact absurd hs h2
      · exact .inr h3
/-- behind r sweeps -/
structure RRound (es : List Ed) (r : Nat) (o : Nat → Bool) : Prop where
  zero : o 0 = true
  snd : ∀ k, o k = true → Rch es k
  pr : Clo es o ∨ r ≤ cntE es o
theorem RRound.next {es : List Ed} {r : Nat} {o0 o : Nat → Bool} (h0 : RRound es r o0) (h : RRel es o0 es.length o) : RRound es (r + 1) o := by
  refine ⟨h.sub 0 h0.zero, h.snd, ?_⟩
  rcases h.pr with ⟨h1, h2⟩ | h1
  · exact .inl fun e he => h2 e (by rw [List.take_of_length_le (Nat.le_refl _)]; exact he)
  · rcases h0.pr with hc | hc
    · -- closed before: nothing can have been added
      exfalso
      have hsub : ∀ k, o k = true → o0 k = true := fun k hk => by
        have := h.snd k hk
        have e := clo_done h0.zero h0.snd hc k
        rw [e, rchB, decP_iff]; exact this
      have := cntE_mono (es := es) hsub
      omega
    · exact .inr (by omega)
theorem RRound.done {es : List Ed} {o : Nat → Bool} (h : RRound es es.length o) (k : Nat) : o k = rchB es k :=
  clo_done h.zero h.snd (by rcases h.pr with h | h; exact h; exact cntE_all h) k

/-- which locations of a process of n are reached -/
noncomputable def rchL (q : Pr) : List Bool := (List.range q.locs.toNat).map fun (i : Nat) => rchB q.edges i
theorem rchL_len (q : Pr) : (rchL q).length = q.locs.toNat := by simp [rchL]
theorem rchL_at {q : Pr} {i : Nat} (h : i < q.locs.toNat) : (rchL q)[i]? = some (rchB q.edges i) := by simp [rchL, h]
/-- what SystemReach returns -/
noncomputable def reachV (s : Sy) (n : Int) : List Bool := if okSy s = true ∧ 0 ≤ n ∧ n < s.procs.length then rchL (s.procs.getD n.toNat ⟨0, []⟩) else []
theorem okP_locs {q : Pr} (h : okP q = true) : 1 ≤ q.locs ∧ q.locs ≤ 4 ∧ q.edges.length ≤ 6 ∧ ∀ e, e ∈ q.edges → 0 ≤ e.src ∧ e.src < q.locs ∧ 0 ≤ e.dst ∧ e.dst < q.locs := by
  rw [okP] at h
  simp only [Bool.and_eq_true, decide_eq_true_eq, List.all_eq_true] at h
  obtain ⟨h1, h2, h3, h4⟩ := h
  refine ⟨h2, h3, h4, fun e he => ?_⟩
  have := h1 e he
  rw [Edge.okB] at this
  simp only [Bool.and_eq_true, decide_eq_true_eq] at this
  omega
theorem okSy_procs {s : Sy} (h : okSy s = true) : s.procs.length ≤ 3 ∧ ∀ q, q ∈ s.procs → okP q = true := by
  rw [okSy] at h
  simp only [Bool.and_eq_true, decide_eq_true_eq, List.all_eq_true] at h
  exact ⟨h.2.2.2, h.1⟩
theorem reachV_len (s : Sy) (n : Int) : (reachV s n).length ≤ 1000 := by
  unfold reachV
  split
  · rename_i h
    obtain ⟨h1, h2, h3⟩ := h
    have hn : n.toNat < s.procs.length := by omega
    have hg : s.procs.getD n.toNat ⟨0, []⟩ = s.procs[n.toNat] := by rw [List.getD_eq_getElem?_getD, List.getElem?_eq_getElem hn]; rfl
    have := okP_locs ((okSy_procs h1).2 _ (List.getElem_mem hn))
    rw [rchL_len, hg]; omega
  · simp
end Sys
end Go.Proofs.Ytffadknollkgiaa
