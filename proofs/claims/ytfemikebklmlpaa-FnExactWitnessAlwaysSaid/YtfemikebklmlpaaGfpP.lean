/- Plain: the greatest part of a set that some path stays in; how it is found; a path in it. No program here. -/
import Derived.Test.YtfemikebklmlpaaMem
namespace Go.Proofs.Ytfemikebklmlpaa
set_option linter.unusedVariables false
set_option linter.unusedSimpArgs false
namespace Gfp

def Post (adj : Nat → List Nat) (thr : Nat → Bool) (X : Nat → Prop) : Prop := ∀ j, X j → thr j = true ∧ ∃ m, m ∈ adj j ∧ X m
noncomputable def gfp (adj : Nat → List Nat) (thr : Nat → Bool) (j : Nat) : Bool := @decide (∃ X, Post adj thr X ∧ X j) (Classical.propDecidable _)
theorem gfp_iff {adj : Nat → List Nat} {thr : Nat → Bool} {j : Nat} : gfp adj thr j = true ↔ ∃ X, Post adj thr X ∧ X j := by unfold gfp; exact @decide_eq_true_iff _ (Classical.propDecidable _)
def some1 (adj : Nat → List Nat) (f : Nat → Bool) (j : Nat) : Bool := (adj j).any f
/-- what a state is to be, by a set -/
def nowF (adj : Nat → List Nat) (thr f : Nat → Bool) (j : Nat) : Bool := thr j && some1 adj f j
theorem some1_iff {adj : Nat → List Nat} {f : Nat → Bool} {j : Nat} : some1 adj f j = true ↔ ∃ m, m ∈ adj j ∧ f m = true := List.any_eq_true
theorem gfp_post (adj : Nat → List Nat) (thr : Nat → Bool) : Post adj thr (fun j => gfp adj thr j = true) := by
  intro j hj
  obtain ⟨X, hX, hj⟩ := gfp_iff.1 hj
  obtain ⟨h1, m, h2, h3⟩ := hX j hj
  exact ⟨h1, m, h2, gfp_iff.2 ⟨X, hX, h3⟩⟩
theorem gfp_now {adj : Nat → List Nat} {thr f : Nat → Bool} {j : Nat} (hf : ∀ m, gfp adj thr m = true → f m = true) (hj : gfp adj thr j = true) : nowF adj thr f j = true := by
  obtain ⟨h1, m, h2, h3⟩ := gfp_post adj thr j hj
  rw [nowF, h1, Bool.true_and]
  exact some1_iff.2 ⟨m, h2, hf m h3⟩

def upd (f : Nat → Bool) (k : Nat) (v : Bool) : Nat → Bool := fun j => if j = k then v else f j
theorem upd_same (f : Nat → Bool) (k : Nat) : upd f k (f k) = f := by
  funext j; unfold upd; split
  · rename_i e; rw [e]
  · rfl
/-- how many are true -/
def cnt (f : Nat → Bool) : Nat → Nat
  | 0 => 0
  | n + 1 => cnt f n + (if f n = true then 1 else 0)
theorem cnt_le (f : Nat → Bool) : ∀ n, cnt f n ≤ n
  | 0 => Nat.le_refl _
  | n + 1 => by have := cnt_le f n; simp only [cnt]; split <;> omega
theorem cnt_upd_ge {f : Nat → Bool} {k : Nat} {v : Bool} : ∀ {n}, n ≤ k → cnt (upd f k v) n = cnt f n
  | 0, _ => rfl
  | n + 1, h => by
    simp only [cnt]
    rw [cnt_upd_ge (by omega)]
    simp [upd, show n ≠ k by omega]
theorem cnt_upd {f : Nat → Bool} {k : Nat} (hv : f k = true) : ∀ {n}, k < n → cnt (upd f k false) n + 1 = cnt f n
  | 0, h => by omega
  | n + 1, h => by
    simp only [cnt]
    by_cases e : n = k
    · subst e
      rw [cnt_upd_ge (Nat.le_refl _), if_pos hv]
      simp [upd]
    · have := cnt_upd hv (n := n) (by omega)
      rw [show upd f k false n = f n from if_neg e]
      omega

/-- the program's set: it holds the greatest one, and whatever is out stays out -/
structure Inv (N : Nat) (adj : Nat → List Nat) (thr f : Nat → Bool) : Prop where
  up : ∀ m, gfp adj thr m = true → f m = true
  out : ∀ j, j < N → f j = false → nowF adj thr f j = false
theorem inv0 (N : Nat) (adj : Nat → List Nat) (thr : Nat → Bool) {f : Nat → Bool} (hf : ∀ j, j < N → f j = true) (ho : ∀ j, N ≤ j → f j = true) : Inv N adj thr f :=
  ⟨fun m _ => (Nat.lt_or_ge m N).elim (hf m) (ho m), fun j h1 h2 => by rw [hf j h1] at h2; cases h2⟩
theorem some1_mono {adj : Nat → List Nat} {f g : Nat → Bool} (h : ∀ m, f m = true → g m = true) {j : Nat} (hj : some1 adj f j = true) : some1 adj g j = true := by
  obtain ⟨m, h1, h2⟩ := some1_iff.1 hj
  exact some1_iff.2 ⟨m, h1, h m h2⟩
theorem nowF_mono {adj : Nat → List Nat} {thr f g : Nat → Bool} (h : ∀ m, f m = true → g m = true) {j : Nat} (hj : nowF adj thr g j = false) : nowF adj thr f j = false := by
  cases e : nowF adj thr f j with
  | false => rfl
  | true =>
    rw [nowF, Bool.and_eq_true] at e
    rw [nowF, e.1, some1_mono h e.2] at hj
    cases hj
theorem upd_le {f : Nat → Bool} {k : Nat} : ∀ m, upd f k false m = true → f m = true := fun m h => by
  unfold upd at h; split at h
  · cases h
  · exact h
theorem Inv.drop {N : Nat} {adj : Nat → List Nat} {thr f : Nat → Bool} (h : Inv N adj thr f) {k : Nat} (hk : nowF adj thr f k = false) : Inv N adj thr (upd f k false) where
  up m hm := by
    unfold upd
    split
    · rename_i e
      subst e
      rw [gfp_now h.up hm] at hk; cases hk
    · exact h.up m hm
  out j h1 h2 := by
    refine nowF_mono upd_le ?_
    unfold upd at h2
    split at h2
    · rename_i e; rw [e]; exact hk
    · exact h.out j h1 h2
/-- in a sweep of the program: f0 at its start, the first i are done -/
structure Sweep (N : Nat) (adj : Nat → List Nat) (thr f0 f : Nat → Bool) (i : Nat) (ch : Bool) : Prop where
  inv : Inv N adj thr f
  no : ch = false → cnt f N = cnt f0 N ∧ ∀ k, k < i → f k = nowF adj thr f k
  yes : ch = true → cnt f N < cnt f0 N
theorem Sweep.start {N : Nat} {adj : Nat → List Nat} {thr f : Nat → Bool} (h : Inv N adj thr f) : Sweep N adj thr f f 0 false := ⟨h, fun _ => ⟨rfl, (fun k hk => by omega)⟩, (fun e => by cases e)⟩
theorem Sweep.same {N i : Nat} {adj : Nat → List Nat} {thr f0 f : Nat → Bool} {ch : Bool} (h : Sweep N adj thr f0 f i ch) (e : nowF adj thr f i = f i) : Sweep N adj thr f0 f (i + 1) ch :=
  ⟨h.inv, fun hc => ⟨(h.no hc).1, fun k hk => by
    by_cases e2 : k = i
    · rw [e2]; exact e.symm
    · exact (h.no hc).2 k (by omega)⟩, h.yes⟩
theorem Sweep.turn {N i : Nat} {adj : Nat → List Nat} {thr f0 f : Nat → Bool} {ch : Bool} (h : Sweep N adj thr f0 f i ch) (hi : i < N) (e : nowF adj thr f i ≠ f i) : nowF adj thr f i = false ∧ Sweep N adj thr f0 (upd f i false) (i + 1) true := by
  have hf : f i = true := by
    cases e2 : f i with
    | true => rfl
    | false => rw [h.inv.out i hi e2, e2] at e; exact absurd rfl e
  have hn : nowF adj thr f i = false := by rw [hf] at e; simpa using e
  refine ⟨hn, h.inv.drop hn, (fun hc => by cases hc), fun _ => ?_⟩
  have h1 := cnt_upd hf hi
  cases ch with
  | false => have := (h.no rfl).1; omega
  | true => have := h.yes rfl; omega
theorem Sweep.done {N : Nat} {adj : Nat → List Nat} {thr f0 f : Nat → Bool} (h : Sweep N adj thr f0 f N false) (hA : ∀ u, u < N → ∀ n, n ∈ adj u → n < N) : ∀ j, j < N → f j = gfp adj thr j := by
  intro j hj
  cases e : gfp adj thr j with
  | true => exact h.inv.up j e
  | false =>
    cases e2 : f j with
    | false => rfl
    | true =>
      have : gfp adj thr j = true := gfp_iff.2 ⟨fun m => m < N ∧ f m = true, fun m hm => by
        have h1 := (h.no rfl).2 m hm.1
        rw [hm.2] at h1
        have h2 := h1.symm
        rw [nowF, Bool.and_eq_true] at h2
        obtain ⟨x, h3, h4⟩ := some1_iff.1 h2.2
        exact ⟨h2.1, x, h3, hA m hm.1 x h3, h4⟩, hj, e2⟩
      rw [this] at e; cases e

/-- the reference's set -/
structure Rin (N : Nat) (adj : Nat → List Nat) (thr f : Nat → Bool) : Prop where
  up : ∀ m, gfp adj thr m = true → m < N → f m = true
  thr : ∀ j, j < N → f j = true → thr j = true
/-- in a round of the reference: f0 at its start -/
structure Rnd (N : Nat) (adj : Nat → List Nat) (thr f0 f : Nat → Bool) (i : Nat) (ch : Bool) : Prop where
  inv : Rin N adj thr f
  old : Rin N adj thr f0
  no : ch = false → (∀ k, k < N → f k = f0 k) ∧ ∀ k, k < i → f k = true → some1 adj f0 k = true
  yes : ch = true → cnt f N < cnt f0 N
  le : cnt f N ≤ cnt f0 N
theorem rin0 {N : Nat} {adj : Nat → List Nat} {thr f : Nat → Bool} (h : ∀ j, j < N → f j = thr j) : Rin N adj thr f :=
  ⟨fun m hm hN => by rw [h m hN]; exact (gfp_post adj thr m hm).1, fun j hj e => by rw [← h j hj]; exact e⟩
theorem Rnd.start {N : Nat} {adj : Nat → List Nat} {thr f : Nat → Bool} (h : Rin N adj thr f) : Rnd N adj thr f f 0 false := ⟨h, h, fun _ => ⟨fun _ _ => rfl, (fun k hk => by omega)⟩, (fun e => by cases e), Nat.le_refl _⟩
theorem Rnd.same {N i : Nat} {adj : Nat → List Nat} {thr f0 f : Nat → Bool} {ch : Bool} (h : Rnd N adj thr f0 f i ch) (e : f i = true → some1 adj f0 i = true) : Rnd N adj thr f0 f (i + 1) ch :=
  ⟨h.inv, h.old, fun hc => ⟨(h.no hc).1, fun k hk hf => by
    by_cases e2 : k = i
    · rw [e2] at hf ⊢; exact e hf
    · exact (h.no hc).2 k (by omega) hf⟩, h.yes, h.le⟩
theorem Rnd.turn {N i : Nat} {adj : Nat → List Nat} {thr f0 f : Nat → Bool} {ch : Bool} (h : Rnd N adj thr f0 f i ch) (hA : ∀ u, u < N → ∀ n, n ∈ adj u → n < N) (hi : i < N) (hf : f i = true) (e : some1 adj f0 i = false) : Rnd N adj thr f0 (upd f i false) (i + 1) true := by
  have hc := cnt_upd hf hi
  refine ⟨⟨fun m hm hN => ?_, fun j hj hh => h.inv.thr j hj (upd_le j hh)⟩, h.old, (fun hh => by cases hh), fun _ => by have := h.le; omega, by have := h.le; omega⟩
  unfold upd
  split
  · rename_i e2
    subst e2
    obtain ⟨_, x, h1, h2⟩ := gfp_post adj thr m hm
    have : some1 adj f0 m = true := some1_iff.2 ⟨x, h1, h.old.up x h2 (hA m hi x h1)⟩
    rw [this] at e; cases e
  · exact h.inv.up m hm hN
theorem Rnd.done {N : Nat} {adj : Nat → List Nat} {thr f0 f : Nat → Bool} (h : Rnd N adj thr f0 f N false) (hA : ∀ u, u < N → ∀ n, n ∈ adj u → n < N) : ∀ j, j < N → f j = gfp adj thr j := by
  intro j hj
  cases e : gfp adj thr j with
  | true => exact h.inv.up j e hj
  | false =>
    cases e2 : f j with
    | false => rfl
    | true =>
      have : gfp adj thr j = true := gfp_iff.2 ⟨fun m => m < N ∧ f m = true, fun m hm => by
        obtain ⟨x, h3, h4⟩ := some1_iff.1 ((h.no rfl).2 m hm.1 hm.2)
        have hx := hA m hm.1 x h3
        exact ⟨h.inv.thr m hm.1 hm.2, x, h3, hx, by rw [(h.no rfl).1 x hx]; exact h4⟩, hj, e2⟩
      rw [this] at e; cases e

/-! ### the path -/
section
variable (adj : Nat → List Nat) (f : Nat → Bool) (s : Nat)
/-- the first neighbour in the set -/
def nxt (j : Nat) : Nat := ((adj j).find? f).getD 0
/-- the k-th state -/
def orb : Nat → Nat
  | 0 => s
  | k + 1 => nxt adj f (orb k)
def orbL (k : Nat) : List Nat := (List.range k).map (orb adj f s)
/-- k is the first time that a state comes again; it was there at time i -/
def Trc (k i : Nat) : Prop := (orbL adj f s k).Nodup ∧ i < k ∧ orb adj f s i = orb adj f s k
end
theorem orbL_len (adj : Nat → List Nat) (f : Nat → Bool) (s k : Nat) : (orbL adj f s k).length = k := by simp [orbL]
theorem orbL_at (adj : Nat → List Nat) (f : Nat → Bool) (s : Nat) {k i : Nat} (h : i < k) : (orbL adj f s k)[i]? = some (orb adj f s i) := by simp [orbL, h]
theorem orbL_succ (adj : Nat → List Nat) (f : Nat → Bool) (s k : Nat) : orbL adj f s (k + 1) = orbL adj f s k ++ [orb adj f s k] := by simp [orbL, List.range_succ]
theorem orb_ne {adj : Nat → List Nat} {f : Nat → Bool} {s k i j : Nat} (h : (orbL adj f s k).Nodup) (hij : i < j) (hj : j < k) : orb adj f s i ≠ orb adj f s j := by
  have := List.pairwise_iff_getElem.1 h i j (by rw [orbL_len]; omega) (by rw [orbL_len]; omega) hij
  simpa [orbL] using this
theorem Trc.eq {adj : Nat → List Nat} {f : Nat → Bool} {s k i k' i' : Nat} (h : Trc adj f s k i) (h' : Trc adj f s k' i') : k = k' ∧ i = i' := by
  have hk : k = k' := by
    rcases Nat.lt_trichotomy k k' with e | e | e
    · exact absurd h.2.2 (orb_ne h'.1 h.2.1 e)
    · exact e
    · exact absurd h'.2.2 (orb_ne h.1 h'.2.1 e)
  subst hk
  refine ⟨rfl, ?_⟩
  rcases Nat.lt_trichotomy i i' with e | e | e
  · exact absurd (h.2.2.trans h'.2.2.symm) (orb_ne h.1 e h'.2.1)
  · exact e
  · exact absurd (h'.2.2.trans h.2.2.symm) (orb_ne h.1 e h.2.1)
theorem orb_in {N : Nat} {adj : Nat → List Nat} {f : Nat → Bool} {s : Nat} (hs : s < N) (hA : ∀ u, u < N → ∀ n, n ∈ adj u → n < N) (hf : f s = true) (hP : ∀ j, j < N → f j = true → ∃ m, m ∈ adj j ∧ f m = true) :
    ∀ k, orb adj f s k < N ∧ f (orb adj f s k) = true ∧ (∀ (u : Nat), orb adj f s k = u → (adj u).find? f = some (nxt adj f u) ∧ nxt adj f u ∈ adj u)
  | k => by
    have key : ∀ u, u < N → f u = true → (adj u).find? f = some (nxt adj f u) ∧ nxt adj f u ∈ adj u ∧ f (nxt adj f u) = true := fun u h1 h2 => by
      obtain ⟨m, h3, h4⟩ := hP u h1 h2
      cases e : (adj u).find? f with
      | none => have := List.find?_eq_none.1 e m h3; exact absurd h4 this
      | some x =>
        have e2 : nxt adj f u = x := by rw [nxt, e]; rfl
        rw [e2]
        exact ⟨rfl, List.mem_of_find?_eq_some e, List.find?_some e⟩
    have main : ∀ k, orb adj f s k < N ∧ f (orb adj f s k) = true := by
      intro k
      induction k with
      | zero => exact ⟨hs, hf⟩
      | succ k ih =>
        obtain ⟨_, h1, h2⟩ := key _ ih.1 ih.2
        exact ⟨hA _ ih.1 _ h1, h2⟩
    refine ⟨(main k).1, (main k).2, fun u hu => ?_⟩
    subst hu
    obtain ⟨h1, h2, _⟩ := key _ (main k).1 (main k).2
    exact ⟨h1, h2⟩
theorem nodup_le {N : Nat} {l : List Nat} (h : l.Nodup) (hl : ∀ m, m ∈ l → m < N) : l.length ≤ N := by
  have := List.Nodup.length_le_of_subset h (l₂ := List.range N) fun m hm => List.mem_range.2 (hl m hm)
  simpa using this
end Gfp
end Go.Proofs.Ytfemikebklmlpaa
