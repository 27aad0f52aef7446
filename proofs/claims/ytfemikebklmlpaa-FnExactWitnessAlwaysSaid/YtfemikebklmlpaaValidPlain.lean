/- Plain mathematics of valid trees: a kind's number of operands, the range of its number, the limits on depth and size. No program here. -/
import Derived.Test.YtfemikebklmlpaaTrPlain
namespace Go.Proofs.Ytfemikebklmlpaa

/-- a language of trees: the kinds 1 to K, how many operands a kind has, how great its number may be, how many nodes a tree may have -/
structure Lang where
  K : Int
  ar : Int → Int
  most : Int → Int
  N : Int

namespace Lang
variable (L : Lang)

/-- a node that is well made by itself -/
def okB (k v : Int) (n : Nat) : Bool := decide (1 ≤ k ∧ k ≤ L.K) && (decide (0 ≤ v ∧ v ≤ L.most k) && decide ((n : Int) = L.ar k))

theorem okB_iff {k v : Int} {n : Nat} : L.okB k v n = true ↔ (1 ≤ k ∧ k ≤ L.K) ∧ (0 ≤ v ∧ v ≤ L.most k) ∧ (n : Int) = L.ar k := by
  simp only [okB, Bool.and_eq_true, decide_eq_true_eq]

theorem okB_no {k v : Int} {n : Nat} (h : ¬((1 ≤ k ∧ k ≤ L.K) ∧ (0 ≤ v ∧ v ≤ L.most k) ∧ (n : Int) = L.ar k)) : L.okB k v n = false := by
  rw [Bool.eq_false_iff, ne_eq, okB_iff]; exact h

mutual
/-- is every node well made, down to a depth -/
def shape : Tr → Int → Bool
  | .mk k v kids, d => decide (1 ≤ d) && (L.okB k v kids.length && shapeL kids (d - 1))
def shapeL : List Tr → Int → Bool
  | [], _ => true
  | t :: ts, d => shape t d && shapeL ts d
end
end Lang

mutual
/-- how many nodes a tree has -/
def nodes : Tr → Int
  | .mk _ _ kids => 1 + nodesL kids
def nodesL : List Tr → Int
  | [] => 0
  | t :: ts => nodes t + nodesL ts
end

mutual
theorem nodes_pos : ∀ t, 1 ≤ nodes t
  | .mk _ _ kids => by simp only [nodes]; have := nodesL_pos kids; omega
theorem nodesL_pos : ∀ l, 0 ≤ nodesL l
  | [] => by simp [nodesL]
  | t :: ts => by simp only [nodesL]; have := nodes_pos t; have := nodesL_pos ts; omega
end

namespace Lang
variable (L : Lang)

/-- a valid tree -/
def valid (t : Tr) : Bool := L.shape t 6 && decide (nodes t ≤ L.N)

mutual
/-- the walk that counts as it goes: whether all is well so far, and the count -/
def wk : Tr → Int → Int → Bool × Int
  | .mk k v kids, d, n => if 6 < d ∨ L.N < n + 1 ∨ L.okB k v kids.length = false then (false, n + 1) else wkL kids (d + 1) (n + 1)
def wkL : List Tr → Int → Int → Bool × Int
  | [], _, n => (true, n)
  | t :: ts, d, n => if (wk t d n).1 = true then wkL ts d (wk t d n).2 else (false, (wk t d n).2)
end

mutual
theorem wk_true : ∀ (t : Tr) (d n : Int), (L.wk t d n).1 = true ↔ (L.shape t (7 - d) = true ∧ n + nodes t ≤ L.N)
  | .mk k v kids, d, n => by
    simp only [wk, shape, nodes]
    have hp := nodesL_pos kids
    by_cases h1 : 6 < d
    · rw [if_pos (.inl h1)]; simp; omega
    by_cases h2 : L.N < n + 1
    · rw [if_pos (.inr (.inl h2))]; simp; omega
    cases h3 : L.okB k v kids.length with
    | false => rw [if_pos (.inr (.inr rfl))]; simp
    | true =>
      rw [if_neg (by simp [h1, h2]), wkL_true kids (d + 1) (n + 1) (by omega), show 7 - (d + 1) = 7 - d - 1 by omega]
      have : (1 : Int) ≤ 7 - d := by omega
      simp [this]
      omega
theorem wkL_true : ∀ (l : List Tr) (d n : Int), n ≤ L.N → ((L.wkL l d n).1 = true ↔ (L.shapeL l (7 - d) = true ∧ n + nodesL l ≤ L.N))
  | [], d, n, hn => by simp [wkL, shapeL, nodesL, hn]
  | t :: ts, d, n, hn => by
    simp only [wkL, shapeL, nodesL]
    have ht := wk_true t d n
    have hp := nodesL_pos ts
    by_cases h : (L.wk t d n).1 = true
    · rw [if_pos h]
      have h' := ht.1 h
      rw [wk_count t d n h, wkL_true ts d _ h'.2, Bool.and_eq_true]
      constructor
      · rintro ⟨a, b⟩; exact ⟨⟨h'.1, a⟩, by omega⟩
      · rintro ⟨⟨_, b⟩, c⟩; exact ⟨b, by omega⟩
    · rw [if_neg h]
      simp only [Bool.and_eq_true, Bool.false_eq_true, false_iff]
      rintro ⟨⟨a, _⟩, c⟩
      exact h (ht.2 ⟨a, by omega⟩)
theorem wk_count : ∀ (t : Tr) (d n : Int), (L.wk t d n).1 = true → (L.wk t d n).2 = n + nodes t
  | .mk k v kids, d, n, h => by
    simp only [wk, nodes] at h ⊢
    split at h
    · simp at h
    · rename_i hc
      rw [if_neg hc, wkL_count kids _ _ h]; omega
theorem wkL_count : ∀ (l : List Tr) (d n : Int), (L.wkL l d n).1 = true → (L.wkL l d n).2 = n + nodesL l
  | [], d, n, _ => by simp [wkL, nodesL]
  | t :: ts, d, n, h => by
    simp only [wkL, nodesL] at h ⊢
    split at h
    · rename_i hc
      rw [if_pos hc, wkL_count ts _ _ h, wk_count t d n hc]; omega
    · simp at h
end

mutual
theorem wk_bd : ∀ (t : Tr) (d n : Int), n ≤ L.N → n < (L.wk t d n).2 ∧ (L.wk t d n).2 ≤ L.N + 1 ∧ ((L.wk t d n).1 = true → (L.wk t d n).2 ≤ L.N)
  | .mk k v kids, d, n, hn => by
    simp only [wk]
    split
    · simp; omega
    · rename_i hc
      have := wkL_bd kids (d + 1) (n + 1) (by omega)
      refine ⟨by omega, by omega, this.2.2⟩
theorem wkL_bd : ∀ (l : List Tr) (d n : Int), n ≤ L.N → n ≤ (L.wkL l d n).2 ∧ (L.wkL l d n).2 ≤ L.N + 1 ∧ ((L.wkL l d n).1 = true → (L.wkL l d n).2 ≤ L.N)
  | [], d, n, hn => by simp only [wkL]; omega
  | t :: ts, d, n, hn => by
    simp only [wkL]
    have h1 := wk_bd t d n hn
    split
    · rename_i hc
      have h2 := wkL_bd ts d _ (h1.2.2 hc)
      refine ⟨by omega, h2.2.1, h2.2.2⟩
    · simp; omega
end

theorem wk_valid (t : Tr) : (L.wk t 1 0).1 = L.valid t := by
  rw [Bool.eq_iff_iff, wk_true, valid, Bool.and_eq_true, decide_eq_true_eq]
  simp

/-- how many nodes a valid tree has; 0 for others -/
def size (t : Tr) : Int := if L.valid t = true then nodes t else 0

theorem size_wk (t : Tr) : L.size t = if (L.wk t 1 0).1 = true then (L.wk t 1 0).2 else 0 := by
  rw [size, ← wk_valid]
  split
  · rename_i h; rw [wk_count L t 1 0 h]; omega
  · rfl

theorem valid_size (t : Tr) : L.valid t = decide (0 < L.size t) := by
  rw [size]
  cases h : L.valid t
  · simp
  · have := nodes_pos t
    simp; omega

theorem size_bd (t : Tr) (h : 0 ≤ L.N) : 0 ≤ L.size t ∧ L.size t ≤ L.N := by
  rw [size]
  split
  · rename_i hv
    have := nodes_pos t
    rw [valid, Bool.and_eq_true, decide_eq_true_eq] at hv
    omega
  · omega

end Lang

/-! ### the count down to a depth -/
mutual
def cnt : Tr → Int → Int
  | .mk _ _ kids, d => 1 + if 0 < d then cntL kids (d - 1) else 0
def cntL : List Tr → Int → Int
  | [], _ => 0
  | t :: ts, d => cnt t d + cntL ts d
end
mutual
theorem cnt_pos : ∀ (t : Tr) (d : Int), 1 ≤ cnt t d
  | .mk k v kids, d => by simp only [cnt]; split <;> (have := cntL_pos kids (d - 1); omega)
theorem cntL_pos : ∀ (l : List Tr) (d : Int), 0 ≤ cntL l d
  | [], d => by simp [cntL]
  | t :: ts, d => by simp only [cntL]; have := cnt_pos t d; have := cntL_pos ts d; omega
end
mutual
theorem cnt_le_nodes : ∀ (t : Tr) (d : Int), cnt t d ≤ nodes t
  | .mk k v kids, d => by simp only [cnt, nodes]; have := nodesL_pos kids; split <;> (have := cnt_le_nodesL kids (d - 1); omega)
theorem cnt_le_nodesL : ∀ (l : List Tr) (d : Int), cntL l d ≤ nodesL l
  | [], d => by simp [cntL, nodesL]
  | t :: ts, d => by simp only [cntL, nodesL]; have := cnt_le_nodes t d; have := cnt_le_nodesL ts d; omega
end
theorem nodes_mem {t : Tr} : ∀ {l : List Tr}, t ∈ l → nodes t ≤ nodesL l := by
  intro l
  induction l with
  | nil => intro h; cases h
  | cons u us ih =>
    intro h
    simp only [nodesL]
    have h1 := nodes_pos u
    have h2 := nodesL_pos us
    cases h with
    | head => omega
    | tail _ h => have := ih h; omega
namespace Lang
variable (L : Lang)
mutual
theorem cnt_shape : ∀ (t : Tr) (d : Int), L.shape t d = true → cnt t d = nodes t
  | .mk k v kids, d, h => by
    simp only [shape, Bool.and_eq_true, decide_eq_true_eq] at h
    simp only [cnt, nodes]
    rw [if_pos (by omega), cntL_shape kids (d - 1) h.2.2]
theorem cntL_shape : ∀ (l : List Tr) (d : Int), L.shapeL l d = true → cntL l d = nodesL l
  | [], d, _ => by simp [cntL, nodesL]
  | t :: ts, d, h => by
    simp only [shapeL, Bool.and_eq_true] at h
    simp only [cntL, nodesL]
    rw [cnt_shape t d h.1, cntL_shape ts d h.2]
end

/-- of a language whose nodes have at most two operands: how many nodes there can be -/
def cap : Nat → Int | 0 => 0 | n + 1 => 1 + 2 * cap n
theorem cap6 : cap 6 = 63 := by decide
theorem cap_pos : ∀ n, 0 ≤ cap n | 0 => by simp [cap] | n + 1 => by have := cap_pos n; simp only [cap]; omega
mutual
theorem nodes_cap (h2 : ∀ k, L.ar k ≤ 2) : ∀ (t : Tr) (d : Nat), L.shape t d = true → nodes t ≤ cap d
  | .mk k v kids, d, h => by
    simp only [shape, Bool.and_eq_true, decide_eq_true_eq, okB] at h
    obtain ⟨h1, ⟨_, _, hk⟩, hs⟩ := h
    have hk2 := h2 k
    cases d with
    | zero => omega
    | succ d =>
      simp only [nodes, cap]
      have := nodesL_cap h2 kids d (by rw [show ((d + 1 : Nat) : Int) - 1 = d by omega] at hs; exact hs)
      have hc := cap_pos d
      have : (kids.length : Int) * cap d ≤ 2 * cap d := Int.mul_le_mul_of_nonneg_right (by omega) hc
      omega
theorem nodesL_cap (h2 : ∀ k, L.ar k ≤ 2) : ∀ (l : List Tr) (d : Nat), L.shapeL l d = true → nodesL l ≤ l.length * cap d
  | [], d, _ => by simp [nodesL]
  | t :: ts, d, h => by
    simp only [shapeL, Bool.and_eq_true] at h
    have h3 := nodes_cap h2 t d h.1
    have h4 := nodesL_cap h2 ts d h.2
    simp only [nodesL, List.length_cons]
    have : ((ts.length + 1 : Nat) : Int) * cap d = ts.length * cap d + cap d := by rw [Int.natCast_add, Int.add_mul]; simp
    omega
end

/-- the reference's way to ask -/
theorem valid_cnt (t : Tr) : L.valid t = (L.shape t 6 && decide (cnt t 6 ≤ L.N)) := by
  rw [valid]
  cases h : L.shape t 6
  · simp
  · rw [cnt_shape L t 6 h]
end Lang

/-- expressions -/
def exprL : Lang where
  K := 9
  ar k := if k = 1 ∨ k = 2 then 0 else if k = 3 then 1 else 2
  most k := if k = 1 then 3 else if k = 2 then 2 else 0
  N := 15
theorem exprL_K : exprL.K = 9 := rfl
theorem exprL_N : exprL.N = 15 := rfl
theorem exprL_ar (k : Int) : exprL.ar k = if k = 1 ∨ k = 2 then 0 else if k = 3 then 1 else 2 := rfl
theorem exprL_most (k : Int) : exprL.most k = if k = 1 then 3 else if k = 2 then 2 else 0 := rfl
/-- formulas of linear temporal logic -/
def formL : Lang where
  K := 10
  ar k := if k = 1 ∨ k = 2 then 0 else if k = 4 ∨ k = 5 ∨ k = 7 ∨ k = 8 then 2 else 1
  most k := if k = 2 then 2 else 0
  N := 12
theorem formL_K : formL.K = 10 := rfl
theorem formL_N : formL.N = 12 := rfl
theorem formL_ar (k : Int) : formL.ar k = if k = 1 ∨ k = 2 then 0 else if k = 4 ∨ k = 5 ∨ k = 7 ∨ k = 8 then 2 else 1 := rfl
theorem formL_most (k : Int) : formL.most k = if k = 2 then 2 else 0 := rfl
/-- branching-time formulas -/
def branL : Lang where
  K := 11
  ar k := if k = 1 ∨ k = 2 then 0 else if k = 4 ∨ k = 5 ∨ k = 7 ∨ k = 10 then 2 else 1
  most k := if k = 2 then 2 else 0
  N := 12
theorem exprL_two (k : Int) : exprL.ar k ≤ 2 := by rw [exprL_ar]; split <;> (try split) <;> omega
theorem formL_two (k : Int) : formL.ar k ≤ 2 := by rw [formL_ar]; split <;> (try split) <;> omega
theorem branL_two (k : Int) : branL.ar k ≤ 2 := by unfold branL; simp only []; split <;> (try split) <;> omega
theorem branL_K : branL.K = 11 := rfl
theorem branL_N : branL.N = 12 := rfl
theorem branL_ar (k : Int) : branL.ar k = if k = 1 ∨ k = 2 then 0 else if k = 4 ∨ k = 5 ∨ k = 7 ∨ k = 10 then 2 else 1 := rfl
theorem branL_most (k : Int) : branL.most k = if k = 2 then 2 else 0 := rfl

end Go.Proofs.Ytfemikebklmlpaa
