/- Plain mathematics of trees: sizes. No program here. -/
import Derived.Test.YtfemikebklmlpaaMem
namespace Go.Proofs.Ytfemikebklmlpaa

mutual
/-- what is left of a number when the lengths of all rows of nodes are taken from it; -1: too little -/
def szT : Tr → Int → Int
  | .mk _ _ kids, left => if szL kids (left - kids.length) < 0 then -1 else szL kids (left - kids.length)
def szL : List Tr → Int → Int
  | [], left => if left < 0 then -1 else left
  | t :: ts, left => if left < 0 then -1 else szL ts (szT t left)
end

mutual
theorem szT_bd : ∀ (t : Tr) (left : Int), -1 ≤ left → left ≤ 1048576 → -1 ≤ szT t left ∧ szT t left ≤ 1048576
  | .mk _ _ kids, left, h1, h2 => by
    simp only [szT]
    split
    · omega
    · rename_i h
      have := szL_bd kids (left - kids.length) (by omega)
      omega
theorem szL_bd : ∀ (l : List Tr) (left : Int), left ≤ 1048576 → -1 ≤ szL l left ∧ szL l left ≤ 1048576
  | [], left, h => by simp only [szL]; split <;> omega
  | t :: ts, left, h => by
    simp only [szL]
    split
    · omega
    · have := szT_bd t left (by omega) h
      exact szL_bd ts _ this.2
end

theorem szL_neg (l : List Tr) (left : Int) (h : left < 0) : szL l left = -1 := by
  cases l <;> (simp only [szL]; rw [if_pos h])

mutual
/-- no row of nodes is longer than 2^20 -/
def Small : Tr → Prop | .mk _ _ kids => kids.length ≤ 1048576 ∧ SmallL kids
def SmallL : List Tr → Prop | [] => True | t :: ts => Small t ∧ SmallL ts
end

mutual
theorem small_of_sz : ∀ (t : Tr) (left : Int), left ≤ 1048576 → 0 ≤ szT t left → Small t
  | .mk _ _ kids, left, h1, h2 => by
    simp only [szT] at h2
    split at h2
    · omega
    · rename_i h
      by_cases hn : left - kids.length < 0
      · rw [szL_neg _ _ hn] at h; omega
      · exact ⟨by omega, smallL_of_sz kids (left - kids.length) (by omega) (by omega)⟩
theorem smallL_of_sz : ∀ (l : List Tr) (left : Int), left ≤ 1048576 → 0 ≤ szL l left → SmallL l
  | [], _, _, _ => trivial
  | t :: ts, left, h1, h2 => by
    simp only [szL] at h2
    split at h2
    · omega
    · by_cases hn : szT t left < 0
      · rw [szL_neg _ _ hn] at h2; omega
      · exact ⟨small_of_sz t left h1 (by omega), smallL_of_sz ts _ (by have := szT_bd t left (by omega) h1; omega) h2⟩
end

theorem smallL_mem {t : Tr} : ∀ {l : List Tr}, SmallL l → t ∈ l → Small t := by
  intro l
  induction l with
  | nil => intro _ h; cases h
  | cons u us ih =>
    intro h hm
    cases hm with
    | head => exact h.1
    | tail _ hm => exact ih h.2 hm

mutual
/-- are two trees the same, asked node by node -/
def eqT : Tr → Tr → Bool
  | .mk k v l, .mk k' v' l' => k == k' && (v == v' && eqL l l')
def eqL : List Tr → List Tr → Bool
  | [], [] => true
  | t :: ts, u :: us => eqT t u && eqL ts us
  | _, _ => false
end

mutual
theorem eqT_refl : ∀ t, eqT t t = true
  | .mk k v l => by simp [eqT, eqL_refl l]
theorem eqL_refl : ∀ l, eqL l l = true
  | [] => by simp [eqL]
  | t :: ts => by simp [eqL, eqT_refl t, eqL_refl ts]
end
mutual
theorem eqT_iff : ∀ t u, eqT t u = true → t = u
  | .mk k v l, .mk k' v' l', h => by
    simp only [eqT, Bool.and_eq_true, beq_iff_eq] at h
    obtain ⟨rfl, rfl, h⟩ := h
    rw [eqL_iff l l' h]
theorem eqL_iff : ∀ l m, eqL l m = true → l = m
  | [], [], _ => rfl
  | [], _ :: _, h => by simp [eqL] at h
  | _ :: _, [], h => by simp [eqL] at h
  | t :: ts, u :: us, h => by
    simp only [eqL, Bool.and_eq_true] at h
    rw [eqT_iff t u h.1, eqL_iff ts us h.2]
end
theorem eqT_true {t u : Tr} : eqT t u = true ↔ t = u := ⟨eqT_iff t u, fun h => h ▸ eqT_refl t⟩
theorem eqT_symm (t u : Tr) : eqT t u = eqT u t := by
  rw [Bool.eq_iff_iff, eqT_true, eqT_true]
  exact ⟨Eq.symm, Eq.symm⟩
theorem eqL_len : ∀ (l m : List Tr), l.length ≠ m.length → eqL l m = false
  | [], [], h => by simp at h
  | [], _ :: _, _ => by simp [eqL]
  | _ :: _, [], _ => by simp [eqL]
  | t :: ts, u :: us, h => by simp only [eqL]; rw [eqL_len ts us (by simpa using h)]; simp

/-- behind k nodes that are the same: the answer hangs on the rest -/
theorem eqL_drop {l m : List Tr} {k : Nat} {t u : Tr} (ht : l.drop k = t :: l.drop (k + 1)) (hu : m.drop k = u :: m.drop (k + 1)) (h : eqL (l.drop k) (m.drop k) = eqL l m) :
    eqL l m = (eqT t u && eqL (l.drop (k + 1)) (m.drop (k + 1))) := by
  rw [← h, ht, hu]
  simp only [eqL]

end Go.Proofs.Ytfemikebklmlpaa
