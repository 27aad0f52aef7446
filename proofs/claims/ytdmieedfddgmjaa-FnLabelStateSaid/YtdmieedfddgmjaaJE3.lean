/- Joined texts (ValidPlain, SzPlain, SysA, ExprSpecV, ExprSpecVB, ImplIn, ExprImplC, ExprImplV, ExprImplN, ExprSame, More): contracts and plain laws. Conditions: those of each theorem. -/
import Derived.Test.YtdmieedfddgmjaaJE0
import Derived.Test.YtdmieedfddgmjaaJE2
import Derived.Test.YtdmieedfddgmjaaRows
import Derived.Test.YtdmieedfddgmjaaJE1
import Derived.WalkSpells
import Derived.WalkLawsBesides
import Derived.Deep.DeepCutAuto
import Derived.Deep.CutBlock
set_option linter.unusedVariables false
set_option linter.unusedSimpArgs false
namespace Go.Proofs.Ytdmieedfddgmjaa

/-- a language of trees: the kinds 1 to K, how many operands a kind has, how great its number may be, how many nodes a tree may have -/
structure Lang where
  K : Int
  ar : Int → Int
  most : Int → Int
  N : Int

namespace Lang
variable (L : Lang)

/-- a node that is well made by itself -/
def okB (k v : Int) (n : Nat) : Bool := decide (1 ≤ k ∧ k ≤ L.K) && (decide (0 ≤ v ∧ v ≤ L.most k) && decide ((n : Int) = L.ar k))

theorem okB_iff {k v : Int} {n : Nat} : L.okB k v n = true ↔ (1 ≤ k ∧ k ≤ L.K) ∧ (0 ≤ v ∧ v ≤ L.most k) ∧ (n : Int) = L.ar k := by
  simp only [okB, Bool.and_eq_true, decide_eq_true_eq]

theorem okB_no {k v : Int} {n : Nat} (h : ¬((1 ≤ k ∧ k ≤ L.K) ∧ (0 ≤ v ∧ v ≤ L.most k) ∧ (n : Int) = L.ar k)) : L.okB k v n = false := by
  rw [Bool.eq_false_iff, ne_eq, okB_iff]; exact h

mutual
/-- is every node well made, down to a depth -/
def shape : Tr → Int → Bool
  | .mk k v kids, d => decide (1 ≤ d) && (L.okB k v kids.length && shapeL kids (d - 1))
def shapeL : List Tr → Int → Bool
  | [], _ => true
  | t :: ts, d => shape t d && shapeL ts d
end
end Lang

mutual
/-- how many nodes a tree has -/
def nodes : Tr → Int
  | .mk _ _ kids => 1 + nodesL kids
def nodesL : List Tr → Int
  | [] => 0
  | t :: ts => nodes t + nodesL ts
end

mutual
theorem nodes_pos : ∀ t, 1 ≤ nodes t
  | .mk _ _ kids => by simp only [nodes]; have := nodesL_pos kids; omega
theorem nodesL_pos : ∀ l, 0 ≤ nodesL l
  | [] => by simp [nodesL]
  | t :: ts => by simp only [nodesL]; have := nodes_pos t; have := nodesL_pos ts; omega
end

namespace Lang
variable (L : Lang)

/-- a valid tree -/
def valid (t : Tr) : Bool := L.shape t 6 && decide (nodes t ≤ L.N)

mutual
/-- the walk that counts as it goes: whether all is well so far, and the count -/
def wk : Tr → Int → Int → Bool × Int
  | .mk k v kids, d, n => if 6 < d ∨ L.N < n + 1 ∨ L.okB k v kids.length = false then (false, n + 1) else wkL kids (d + 1) (n + 1)
def wkL : List Tr → Int → Int → Bool × Int
  | [], _, n => (true, n)
  | t :: ts, d, n => if (wk t d n).1 = true then wkL ts d (wk t d n).2 else (false, (wk t d n).2)
end

mutual
theorem wk_true : ∀ (t : Tr) (d n : Int), (L.wk t d n).1 = true ↔ (L.shape t (7 - d) = true ∧ n + nodes t ≤ L.N)
  | .mk k v kids, d, n => by
    simp only [wk, shape, nodes]
    have hp := nodesL_pos kids
    by_cases h1 : 6 < d
    · rw [if_pos (.inl h1)]; simp; omega
    by_cases h2 : L.N < n + 1
    · rw [if_pos (.inr (.inl h2))]; simp; omega
    cases h3 : L.okB k v kids.length with
    | false => rw [if_pos (.inr (.inr rfl))]; simp
    | true =>
      rw [if_neg (by simp [h1, h2]), wkL_true kids (d + 1) (n + 1) (by omega), show 7 - (d + 1) = 7 - d - 1 by omega]
      have : (1 : Int) ≤ 7 - d := by omega
      simp [this]
      omega
theorem wkL_true : ∀ (l : List Tr) (d n : Int), n ≤ L.N → ((L.wkL l d n).1 = true ↔ (L.shapeL l (7 - d) = true ∧ n + nodesL l ≤ L.N))
  | [], d, n, hn => by simp [wkL, shapeL, nodesL, hn]
  | t :: ts, d, n, hn => by
    simp only [wkL, shapeL, nodesL]
    have ht := wk_true t d n
    have hp := nodesL_pos ts
    by_cases h : (L.wk t d n).1 = true
    · rw [if_pos h]
      have h' := ht.1 h
      rw [wk_count t d n h, wkL_true ts d _ h'.2, Bool.and_eq_true]
      constructor
      · rintro ⟨a, b⟩; exact ⟨⟨h'.1, a⟩, by omega⟩
      · rintro ⟨⟨_, b⟩, c⟩; exact ⟨b, by omega⟩
    · rw [if_neg h]
      simp only [Bool.and_eq_true, Bool.false_eq_true, false_iff]
      rintro ⟨⟨a, _⟩, c⟩
      exact h (ht.2 ⟨a, by omega⟩)
theorem wk_count : ∀ (t : Tr) (d n : Int), (L.wk t d n).1 = true → (L.wk t d n).2 = n + nodes t
  | .mk k v kids, d, n, h => by
    simp only [wk, nodes] at h ⊢
    split at h
    · simp at h
    · rename_i hc
      rw [if_neg hc, wkL_count kids _ _ h]; omega
theorem wkL_count : ∀ (l : List Tr) (d n : Int), (L.wkL l d n).1 = true → (L.wkL l d n).2 = n + nodesL l
  | [], d, n, _ => by simp [wkL, nodesL]
  | t :: ts, d, n, h => by
    simp only [wkL, nodesL] at h ⊢
    split at h
    · rename_i hc
      rw [if_pos hc, wkL_count ts _ _ h, wk_count t d n hc]; omega
    · simp at h
end

mutual
theorem wk_bd : ∀ (t : Tr) (d n : Int), n ≤ L.N → n < (L.wk t d n).2 ∧ (L.wk t d n).2 ≤ L.N + 1 ∧ ((L.wk t d n).1 = true → (L.wk t d n).2 ≤ L.N)
  | .mk k v kids, d, n, hn => by
    simp only [wk]
    split
    · simp; omega
    · rename_i hc
      have := wkL_bd kids (d + 1) (n + 1) (by omega)
      refine ⟨by omega, by omega, this.2.2⟩
theorem wkL_bd : ∀ (l : List Tr) (d n : Int), n ≤ L.N → n ≤ (L.wkL l d n).2 ∧ (L.wkL l d n).2 ≤ L.N + 1 ∧ ((L.wkL l d n).1 = true → (L.wkL l d n).2 ≤ L.N)
  | [], d, n, hn => by simp only [wkL]; omega
  | t :: ts, d, n, hn => by
    simp only [wkL]
    have h1 := wk_bd t d n hn
    split
    · rename_i hc
      have h2 := wkL_bd ts d _ (h1.2.2 hc)
      refine ⟨by omega, h2.2.1, h2.2.2⟩
    · simp; omega
end

theorem wk_valid (t : Tr) : (L.wk t 1 0).1 = L.valid t := by
  rw [Bool.eq_iff_iff, wk_true, valid, Bool.and_eq_true, decide_eq_true_eq]
  simp

/-- how many nodes a valid tree has; 0 for others -/
def size (t : Tr) : Int := if L.valid t = true then nodes t else 0

theorem size_wk (t : Tr) : L.size t = if (L.wk t 1 0).1 = true then (L.wk t 1 0).2 else 0 := by
  rw [size, ← wk_valid]
  split
  · rename_i h; rw [wk_count L t 1 0 h]; omega
  · rfl

theorem valid_size (t : Tr) : L.valid t = decide (0 < L.size t) := by
  rw [size]
  cases h : L.valid t
  · simp
  · have := nodes_pos t
    simp; omega

theorem size_bd (t : Tr) (h : 0 ≤ L.N) : 0 ≤ L.size t ∧ L.size t ≤ L.N := by
  rw [size]
  split
  · rename_i hv
    have := nodes_pos t
    rw [valid, Bool.and_eq_true, decide_eq_true_eq] at hv
    omega
  · omega

end Lang

/-! ### the count down to a depth -/
mutual
def cnt : Tr → Int → Int
  | .mk _ _ kids, d => 1 + if 0 < d then cntL kids (d - 1) else 0
def cntL : List Tr → Int → Int
  | [], _ => 0
  | t :: ts, d => cnt t d + cntL ts d
end
mutual
theorem cnt_pos : ∀ (t : Tr) (d : Int), 1 ≤ cnt t d
  | .mk k v kids, d => by simp only [cnt]; split <;> (have := cntL_pos kids (d - 1); omega)
theorem cntL_pos : ∀ (l : List Tr) (d : Int), 0 ≤ cntL l d
  | [], d => by simp [cntL]
  | t :: ts, d => by simp only [cntL]; have := cnt_pos t d; have := cntL_pos ts d; omega
end
mutual
theorem cnt_le_nodes : ∀ (t : Tr) (d : Int), cnt t d ≤ nodes t
  | .mk k v kids, d => by simp only [cnt, nodes]; have := nodesL_pos kids; split <;> (have := cnt_le_nodesL kids (d - 1); omega)
theorem cnt_le_nodesL : ∀ (l : List Tr) (d : Int), cntL l d ≤ nodesL l
  | [], d => by simp [cntL, nodesL]
  | t :: ts, d => by simp only [cntL, nodesL]; have := cnt_le_nodes t d; have := cnt_le_nodesL ts d; omega
end
theorem nodes_mem {t : Tr} : ∀ {l : List Tr}, t ∈ l → nodes t ≤ nodesL l := by
  intro l
  induction l with
  | nil => intro h; cases h
  | cons u us ih =>
    intro h
    simp only [nodesL]
    have h1 := nodes_pos u
    have h2 := nodesL_pos us
    cases h with
    | head => omega
    | tail _ h => have := ih h; omega
namespace Lang
variable (L : Lang)
mutual
theorem cnt_shape : ∀ (t : Tr) (d : Int), L.shape t d = true → cnt t d = nodes t
  | .mk k v kids, d, h => by
    simp only [shape, Bool.and_eq_true, decide_eq_true_eq] at h
    simp only [cnt, nodes]
    rw [if_pos (by omega), cntL_shape kids (d - 1) h.2.2]
theorem cntL_shape : ∀ (l : List Tr) (d : Int), L.shapeL l d = true → cntL l d = nodesL l
  | [], d, _ => by simp [cntL, nodesL]
  | t :: ts, d, h => by
    simp only [shapeL, Bool.and_eq_true] at h
    simp only [cntL, nodesL]
    rw [cnt_shape t d h.1, cntL_shape ts d h.2]
end

/-- of a language whose nodes have at most two operands: how many nodes there can be -/
def cap : Nat → Int | 0 => 0 | n + 1 => 1 + 2 * cap n
theorem cap6 : cap 6 = 63 := by decide
theorem cap_pos : ∀ n, 0 ≤ cap n | 0 => by simp [cap] | n + 1 => by have := cap_pos n; simp only [cap]; omega
mutual
theorem nodes_cap (h2 : ∀ k, L.ar k ≤ 2) : ∀ (t : Tr) (d : Nat), L.shape t d = true → nodes t ≤ cap d
  | .mk k v kids, d, h => by
    simp only [shape, Bool.and_eq_true, decide_eq_true_eq, okB] at h
    obtain ⟨h1, ⟨_, _, hk⟩, hs⟩ := h
    have hk2 := h2 k
    cases d with
    | zero => omega
    | succ d =>
      simp only [nodes, cap]
      have := nodesL_cap h2 kids d (by rw [show ((d + 1 : Nat) : Int) - 1 = d by omega] at hs; exact hs)
      have hc := cap_pos d
      have : (kids.length : Int) * cap d ≤ 2 * cap d := Int.mul_le_mul_of_nonneg_right (by omega) hc
      omega
theorem nodesL_cap (h2 : ∀ k, L.ar k ≤ 2) : ∀ (l : List Tr) (d : Nat), L.shapeL l d = true → nodesL l ≤ l.length * cap d
  | [], d, _ => by simp [nodesL]
  | t :: ts, d, h => by
    simp only [shapeL, Bool.and_eq_true] at h
    have h3 := nodes_cap h2 t d h.1
    have h4 := nodesL_cap h2 ts d h.2
    simp only [nodesL, List.length_cons]
    have : ((ts.length + 1 : Nat) : Int) * cap d = ts.length * cap d + cap d := by rw [Int.natCast_add, Int.add_mul]; simp
    omega
end

/-- the reference's way to ask -/
theorem valid_cnt (t : Tr) : L.valid t = (L.shape t 6 && decide (cnt t 6 ≤ L.N)) := by
  rw [valid]
  cases h : L.shape t 6
  · simp
  · rw [cnt_shape L t 6 h]
end Lang

/-- expressions -/
def exprL : Lang where
  K := 9
  ar k := if k = 1 ∨ k = 2 then 0 else if k = 3 then 1 else 2
  most k := if k = 1 then 3 else if k = 2 then 2 else 0
  N := 15
theorem exprL_K : exprL.K = 9 := rfl
theorem exprL_N : exprL.N = 15 := rfl
theorem exprL_ar (k : Int) : exprL.ar k = if k = 1 ∨ k = 2 then 0 else if k = 3 then 1 else 2 := rfl
theorem exprL_most (k : Int) : exprL.most k = if k = 1 then 3 else if k = 2 then 2 else 0 := rfl
/-- formulas of linear temporal logic -/
def formL : Lang where
  K := 10
  ar k := if k = 1 ∨ k = 2 then 0 else if k = 4 ∨ k = 5 ∨ k = 7 ∨ k = 8 then 2 else 1
  most k := if k = 2 then 2 else 0
  N := 12
theorem formL_K : formL.K = 10 := rfl
theorem formL_N : formL.N = 12 := rfl
theorem formL_ar (k : Int) : formL.ar k = if k = 1 ∨ k = 2 then 0 else if k = 4 ∨ k = 5 ∨ k = 7 ∨ k = 8 then 2 else 1 := rfl
theorem formL_most (k : Int) : formL.most k = if k = 2 then 2 else 0 := rfl
/-- branching-time formulas -/
def branL : Lang where
  K := 11
  ar k := if k = 1 ∨ k = 2 then 0 else if k = 4 ∨ k = 5 ∨ k = 7 ∨ k = 10 then 2 else 1
  most k := if k = 2 then 2 else 0
  N := 12
theorem exprL_two (k : Int) : exprL.ar k ≤ 2 := by rw [exprL_ar]; split <;> (try split) <;> omega
theorem formL_two (k : Int) : formL.ar k ≤ 2 := by rw [formL_ar]; split <;> (try split) <;> omega
theorem branL_two (k : Int) : branL.ar k ≤ 2 := by unfold branL; simp only []; split <;> (try split) <;> omega
theorem branL_K : branL.K = 11 := rfl
theorem branL_N : branL.N = 12 := rfl
theorem branL_ar (k : Int) : branL.ar k = if k = 1 ∨ k = 2 then 0 else if k = 4 ∨ k = 5 ∨ k = 7 ∨ k = 10 then 2 else 1 := rfl
theorem branL_most (k : Int) : branL.most k = if k = 2 then 2 else 0 := rfl

end Go.Proofs.Ytdmieedfddgmjaa
namespace Go.Proofs.Ytdmieedfddgmjaa
mutual
theorem szT_eq : ∀ (t : Tr) (left : Int), 0 ≤ szT t left → szT t left = left - nodesL t.kids
  | .mk k v kids, left, h => by
    simp only [szT, Tr.kids] at h ⊢
    split at h
    · omega
    · rename_i hn
      rw [if_neg hn]
      have := szL_eq kids (left - kids.length) (by omega)
      omega
theorem szL_eq : ∀ (l : List Tr) (left : Int), 0 ≤ szL l left → szL l left = left + l.length - nodesL l
  | [], left, h => by
    simp only [szL, nodesL] at h ⊢
    split at h
    · omega
    · rename_i hn; rw [if_neg hn]; simp
  | t :: ts, left, h => by
    simp only [szL, nodesL] at h ⊢
    split at h
    · omega
    · rename_i hn
      rw [if_neg hn]
      by_cases h0 : szT t left < 0
      · rw [szL_neg _ _ h0] at h; omega
      · have h1 := szL_eq ts _ h
        have h2 := szT_eq t left (by omega)
        have h3 : nodes t = 1 + nodesL t.kids := by cases t; simp [nodes, Tr.kids]
        rw [h1, h2, h3]
        simp only [List.length_cons]
        omega
end
theorem nodesL_kids (t : Tr) : nodes t = 1 + nodesL t.kids := by cases t; simp [nodes, Tr.kids]
end Go.Proofs.Ytdmieedfddgmjaa
namespace Go.Proofs.Ytdmieedfddgmjaa
open Go.RowKit
namespace Sys

theorem szE_ok : SzOk Edge.szE := fun e left h1 h2 => Edge.szE_bd e left h1 h2
def szEs (l : List Ed) (left : Int) : Int := szG Edge.szE l (left - l.length)
def szP (q : Pr) (left : Int) : Int := if szEs q.edges left < 0 then -1 else szEs q.edges left
theorem szP_eq (q : Pr) (left : Int) (h : left ≤ 1048576) : szP q left = szEs q.edges left := by
  have := szG_bd szE_ok q.edges (left - q.edges.length) (by omega)
  unfold szP szEs
  split <;> omega
theorem szP_ok : SzOk szP := fun q left _ h2 => by
  rw [szP_eq q left h2]
  exact szG_bd szE_ok q.edges (left - q.edges.length) (by omega)
def szPs (l : List Pr) (left : Int) : Int := szG szP l (left - l.length)
def szI (l : List Int) (left : Int) : Int := if left - l.length < 0 then -1 else left - l.length
def szS (s : Sy) (left : Int) : Int := if szI s.init left < 0 then -1 else szPs s.procs (szI s.init left)
theorem szS_bd (s : Sy) (left : Int) (_ : -1 ≤ left) (h2 : left ≤ 1048576) : -1 ≤ szS s left ∧ szS s left ≤ 1048576 := by
  unfold szS
  split
  · omega
  · refine szG_bd szP_ok _ _ ?_
    unfold szI; split <;> omega

/-- how many numbers are in it -/
def cE (e : Ed) : Int := nodesL e.guard.kids + nodesL e.val.kids
def cP (q : Pr) : Int := q.edges.length + sumC cE q.edges
def cS (s : Sy) : Int := s.init.length + s.procs.length + sumC cP s.procs
theorem cE_eq (e : Ed) (left : Int) (h1 : -1 ≤ left) (h2 : left ≤ 1048576) (h : 0 ≤ Edge.szE e left) : Edge.szE e left = left - cE e := by
  have hb := szT_bd e.guard left h1 h2
  unfold Edge.szE at h ⊢
  split at h
  · omega
  · rename_i k1
    split at h
    · omega
    · rename_i k2
      rw [if_neg k1, if_neg k2, szT_eq _ _ (by omega), szT_eq e.guard left (by omega)]
      unfold cE; omega
theorem cP_eq (q : Pr) (left : Int) (_ : -1 ≤ left) (h2 : left ≤ 1048576) (h : 0 ≤ szP q left) : szP q left = left - cP q := by
  rw [szP_eq q left h2] at h ⊢
  unfold szEs at h ⊢
  rw [szG_eq szE_ok cE_eq _ _ (by omega) h]
  unfold cP; omega
theorem cE_nonneg (e : Ed) : 0 ≤ cE e := by
  have := nodesL_pos e.guard.kids
  have := nodesL_pos e.val.kids
  unfold cE; omega
theorem cP_nonneg (q : Pr) : 0 ≤ cP q := by
  have := sumC_nonneg cE_nonneg q.edges
  unfold cP; omega
/-- a system not too large -/
structure SmallS (s : Sy) : Prop where
  init : s.init.length ≤ 1048576
  procs : s.procs.length ≤ 1048576
  edges : ∀ q, q ∈ s.procs → q.edges.length ≤ 1048576 ∧ ∀ e, e ∈ q.edges → Edge.SmallE e
  all : cS s ≤ 1048576
theorem small_of_sz (s : Sy) (h : 0 ≤ szS s 1048576) : SmallS s := by
  unfold szS at h
  split at h
  · omega
  · rename_i hi
    unfold szI at hi h
    split at hi
    · omega
    · rename_i hi2
      rw [if_neg hi2] at h
      unfold szPs at h
      have e := szG_eq szP_ok cP_eq _ _ (by omega) h
      have hn := sumC_nonneg cP_nonneg s.procs
      refine ⟨by omega, by omega, fun q hq => ?_, by unfold cS; omega⟩
      obtain ⟨lf, k1, k2, k3⟩ := szG_mem szP_ok _ _ (by omega) h hq
      have e2 := cP_eq q lf k1 k2 k3
      rw [szP_eq q lf k2] at k3
      unfold szEs at k3
      have hn2 := sumC_nonneg cE_nonneg q.edges
      refine ⟨by rw [cP] at e2; rw [szP_eq q lf k2] at e2; unfold szEs at e2; omega, fun x hx => ?_⟩
      obtain ⟨lf2, j1, j2, j3⟩ := szG_mem szE_ok _ _ (by omega) k3 hx
      exact Edge.smallE_of_sz x lf2 j1 j2 j3

/-- a variable of two cells -/
abbrev Box2 (w : World) (B : Nat) (a b : Value) : Prop := B < w.heap.size ∧ w.cell? ⟨B, 0, none⟩ = some a ∧ w.cell? ⟨B, 1, none⟩ = some b ∧ w.frozen? ⟨B, 0, none⟩ = false ∧ w.frozen? ⟨B, 1, none⟩ = false
theorem box2_next {w w' : World} (h : Below w.heap.size w w') {B : Nat} {a b : Value} (hb : Box2 w B a b) : Box2 w' B a b :=
  ⟨Nat.lt_of_lt_of_le hb.1 h.size, by rw [h.cell (p := ⟨B, 0, none⟩) hb.1]; exact hb.2.1, by rw [h.cell (p := ⟨B, 1, none⟩) hb.1]; exact hb.2.2.1,
    by rw [h.frozen (p := ⟨B, 0, none⟩) hb.1]; exact hb.2.2.2.1, by rw [h.frozen (p := ⟨B, 1, none⟩) hb.1]; exact hb.2.2.2.2⟩
theorem box2_at {w : World} {B : Nat} {a b : Value} {t : TypeId} (h : B = w.heap.size) : Box2 (w.alloc (.cells #[a, b] t)) B a b := by subst h; exact ⟨by simp, by simp, by simp, by simp, by simp⟩
theorem box2_set0 {w : World} {B : Nat} {a b : Value} (h : Box2 w B a b) (v : Value) : Box2 (w.setCell ⟨B, 0, none⟩ v) B v b :=
  ⟨by simpa using h.1, World.cell?_setCell_same _ _ _ h.2.1, by rw [World.cell?_setCell_other _ _ _ _ (by simp)]; exact h.2.2.1, by simpa using h.2.2.2.1, by simpa using h.2.2.2.2⟩
theorem box2_set1 {w : World} {B : Nat} {a b : Value} (h : Box2 w B a b) (v : Value) : Box2 (w.setCell ⟨B, 1, none⟩ v) B a v :=
  ⟨by simpa using h.1, by rw [World.cell?_setCell_other _ _ _ _ (by simp)]; exact h.2.1, World.cell?_setCell_same _ _ _ h.2.2.1, by simpa using h.2.2.2.1, by simpa using h.2.2.2.2⟩
theorem box2_block {w w' : World} (hs : w.heap.size ≤ w'.heap.size) {B : Nat} {a b : Value} (he : w'.heap[B]? = w.heap[B]?) (hb : Box2 w B a b) : Box2 w' B a b :=
  ⟨Nat.lt_of_lt_of_le hb.1 hs, by rw [World.cell?_of_block (w := w) (a := ⟨B, 0, none⟩) he]; exact hb.2.1, by rw [World.cell?_of_block (w := w) (a := ⟨B, 1, none⟩) he]; exact hb.2.2.1,
    by rw [World.frozen?_of_block (w := w) (a := ⟨B, 0, none⟩) he]; exact hb.2.2.2.1, by rw [World.frozen?_of_block (w := w) (a := ⟨B, 1, none⟩) he]; exact hb.2.2.2.2⟩
theorem box2_but {w w' : World} {D : Nat} (h : But w D w') {B : Nat} {a b : Value} (hd : B ≠ D) (hb : Box2 w B a b) : Box2 w' B a b := box2_block h.size (h.block B hb.1 hd) hb

end Sys
end Go.Proofs.Ytdmieedfddgmjaa
namespace Go.Proofs.Ytdmieedfddgmjaa
open Go.RowKit
namespace Expr

def arityV (k : Int) : Int := if k = 1 ∨ k = 2 then 0 else if k = 3 then 1 else if 4 ≤ k ∧ k ≤ 9 then 2 else -1
theorem arityV_ok {k v : Int} {n : Nat} : exprL.okB k v n = (decide ((n : Int) = arityV k) && decide (0 ≤ v ∧ v ≤ exprL.most k)) := by
  rw [Bool.eq_iff_iff, Lang.okB_iff, Bool.and_eq_true, decide_eq_true_eq, decide_eq_true_eq, exprL_K, exprL_ar]
  unfold arityV
  constructor
  · rintro ⟨h1, h2, h3⟩
    refine ⟨?_, h2⟩
    rw [h3]
    by_cases h4 : k = 1 ∨ k = 2
    · rw [if_pos h4, if_pos h4]
    · by_cases h5 : k = 3
      · rw [if_neg h4, if_neg h4, if_pos h5, if_pos h5]
      · rw [if_neg h4, if_neg h4, if_neg h5, if_neg h5, if_pos (by omega)]
  · rintro ⟨h1, h2⟩
    by_cases h4 : k = 1 ∨ k = 2
    · rw [if_pos h4] at h1; exact ⟨by omega, h2, by rw [if_pos h4]; exact h1⟩
    · by_cases h5 : k = 3
      · rw [if_neg h4, if_pos h5] at h1; exact ⟨by omega, h2, by rw [if_neg h4, if_pos h5]; exact h1⟩
      · by_cases h6 : 4 ≤ k ∧ k ≤ 9
        · rw [if_neg h4, if_neg h5, if_pos h6] at h1; exact ⟨by omega, h2, by rw [if_neg h4, if_neg h5]; exact h1⟩
        · rw [if_neg h4, if_neg h5, if_neg h6] at h1; omega
theorem arityV_bd (k : Int) : -1 ≤ arityV k ∧ arityV k ≤ 2 := by unfold arityV; split <;> (try split) <;> (try split) <;> omega

set_option maxHeartbeats 400000 in
theorem arity_any (k : Int) (w : World) : Calls Try.prog 63 #[.int .i64 k] w (Ret (.int .i64 (arityV k)) w) := by
  by_cases h1 : k = 1
  · subst h1
    go_enter Try.func63, Try.ntmps63
    go_wp2_with fail
    go_ret
    exact Ret.mk rfl (Below.refl _ _)
  by_cases h2 : k = 2
  · subst h2
    go_enter Try.func63, Try.ntmps63
    go_wp2_with fail
    go_ret
    exact Ret.mk rfl (Below.refl _ _)
  by_cases h3 : k = 3
  · subst h3
    go_enter Try.func63, Try.ntmps63
    go_wp2_with fail
    go_ret
    exact Ret.mk rfl (Below.refl _ _)
  have e1 : (k == 1) = false := by simpa using h1
  have e2 : (k == 2) = false := by simpa using h2
  have e3 : (k == 3) = false := by simpa using h3
  have E := hid (show arityV k = if 4 ≤ k ∧ k ≤ 9 then 2 else -1 by unfold arityV; rw [if_neg (by omega), if_neg h3])
  clear h1 h2 h3
  by_cases h4 : 4 ≤ k
  · by_cases h9 : k ≤ 9
    · go_enter Try.func63, Try.ntmps63
      go_wp2_with fail
      go_ret
      exact Ret.mk (int_val (by rw [E.out, if_pos ⟨h4, h9⟩])) (Below.refl _ _)
    · go_enter Try.func63, Try.ntmps63
      go_wp2_with fail
      go_ret
      exact Ret.mk (int_val (by rw [E.out, if_neg (by omega)])) (Below.refl _ _)
  · go_enter Try.func63, Try.ntmps63
    go_wp2_with fail
    go_ret
    exact Ret.mk (int_val (by rw [E.out, if_neg (by omega)])) (Below.refl _ _)

def ShT (t : Tr) : Prop := ∀ (w : World) (x : Value) (d : Int), TrIn Any w t x → -1 ≤ d → d ≤ 6 → Calls Try.prog 51 #[x, .int .i64 d] w (Ret (.bool (exprL.shape t d)) w)

set_option maxHeartbeats 1000000 in
theorem shT_of (k v : Int) (kids : List Tr) (h : ∀ t, t ∈ kids → ShT t) : ShT (.mk k v kids) := by
  intro w x d hx hd1 hd2
  rw [TrIn_mk] at hx
  obtain ⟨a, n, c, rfl, hk, hv, rfl, hc, hc2, hks⟩ := hx
  by_cases hd : d < 1
  · have E := hid (show exprL.shape (.mk k v kids) d = false by simp only [Lang.shape]; rw [decide_eq_false (by omega), Bool.false_and])
    have hd' : decide (d < 1) = true := by simpa using hd
    go_enter Try.func51, Try.ntmps51
    go_wp2_with fail
    refine wp_region_over (by kernel_rfl) (by kernel_rfl) ?_; (repeat (go_big_quiet_step ((fail)))); refine wpQuiet_nil ?_; rintro _ ⟨xq, rfl⟩
    go_wp2_with fail
    go_ret
    exact Ret.mk (bool_val E.out.symm) (by repeat (first | exact Below.refl _ _ | assumption | refine below_a ?_ _ | refine below_o ?_ _ | refine below_d ?_ | refine below_n ?_ _ | refine below_s ?_ (by first | (simp; done) | (simp; omega) | omega) _))
  have E0 := hid (show exprL.shape (.mk k v kids) d = (exprL.okB k v kids.length && exprL.shapeL kids (d - 1)) by simp only [Lang.shape]; rw [decide_eq_true (by omega), Bool.true_and])
  have hd' : decide (d < 1) = false := by simpa using hd
  by_cases hn : (kids.length : Int) = arityV k
  · have hn1 : ((kids.length : Int) != arityV k) = false := by simpa using hn
    have HN := hid hn; clear hn
    go_enter Try.func51, Try.ntmps51
    go_wp2_with fail
    refine wp_region_over (by kernel_rfl) (by kernel_rfl) ?_; (repeat (go_big_quiet_step ((go_at_call 63; exact Calls.over (arity_any _ _))))); refine wpQuiet_nil ?_; rintro _ ⟨xq, rfl⟩
    go_upto_block 0 with fail
    go_cut [5] (fun s5 wx => s5 = .int .i64 (exprL.most k) ∧ Below w.heap.size w wx ∧ w.heap.size < wx.heap.size ∧ wx.cell? ⟨w.heap.size, 0, none⟩ = some (.int .i64 k) ∧ wx.cell? ⟨w.heap.size, 1, none⟩ = some (.int .i64 v) ∧ wx.cell? ⟨w.heap.size, 2, none⟩ = some (.slice a kids.length c))
    case first =>
      go_wp2_with fail
      all_goals go_meet
      all_goals refine ⟨int_val ?_, (by repeat (first | exact Below.refl _ _ | assumption | refine below_a ?_ _ | refine below_o ?_ _ | refine below_d ?_ | refine below_n ?_ _ | refine below_s ?_ (by first | (simp; done) | (simp; omega) | omega) _)), by simp [go_sem], by simp [go_sem], by simp [go_sem], by simp [go_sem]⟩
      all_goals first
        | (have e := ‹(k == 1) = true›; simp at e; rw [exprL_most, if_pos e])
        | (have e1 := ‹(k == 1) = false›; have e := ‹(k == 2) = true›; simp at e1 e; rw [exprL_most, if_neg e1, if_pos e])
        | (have e1 := ‹(k == 1) = false›; have e := ‹(k == 2) = false›; simp at e1 e; rw [exprL_most, if_neg e1, if_neg e])
    case rest =>
      obtain ⟨rfl, hb, hsz, q0, q1, q2⟩ := hcut
      by_cases hv0 : v < 0
      · have E := hid (show exprL.shape (.mk k v kids) d = false by rw [E0.out, arityV_ok, decide_eq_false (show ¬(0 ≤ v ∧ v ≤ exprL.most k) by omega)]; simp)
        go_wp2_with fail
        go_ret
        exact Ret.mk (bool_val E.out.symm) hb
      by_cases hv1 : exprL.most k < v
      · have E := hid (show exprL.shape (.mk k v kids) d = false by rw [E0.out, arityV_ok, decide_eq_false (show ¬(0 ≤ v ∧ v ≤ exprL.most k) by omega)]; simp)
        go_wp2_with fail
        go_ret
        exact Ret.mk (bool_val E.out.symm) hb
      have E := hid (show exprL.shape (.mk k v kids) d = exprL.shapeL kids (d - 1) by rw [E0.out, arityV_ok, decide_eq_true HN.out, decide_eq_true (show (0 ≤ v ∧ v ≤ exprL.most k) by omega)]; simp)
      unfold maxLen at hc2
      go_wp2_with fail
      clear q0 q1
      go_loopw [6] (fun i wr => ∃ j : Nat, j ≤ kids.length ∧ i = .int .i64 j ∧ Below w.heap.size w wr ∧ w.heap.size < wr.heap.size ∧ wr.cell? ⟨w.heap.size, 2, none⟩ = some (.slice a kids.length c) ∧ Hid (exprL.shapeL (kids.drop j) (d - 1) = exprL.shapeL kids (d - 1)))
        (fun i _ => kids.length - (intOf i).toNat)
      case atStart => exact ⟨0, Nat.zero_le _, rfl, hb, hsz, q2, hid rfl⟩
      case round =>
        clear hb hsz q2
        obtain ⟨j, hj, rfl, hb, hsz, q2, hr⟩ := hrel
        by_cases hlt : j < kids.length
        · obtain ⟨b, o, c0, c1, c2, t, rfl, gb, g0, g1, g2, hT⟩ := TrsIn_round hks hb hlt
          have HR2 := hr.out
          rw [hT.out.2.2.1] at HR2
          simp only [Lang.shapeL] at HR2
          have HR := hid HR2; clear HR2
          go_wp2_with fail
          refine (h t hT.out.2.1 _ _ (d - 1) hT.out.1 (by omega) (by omega)).mono ?_
          rintro e w2 ⟨rfl, hby⟩
          obtain ⟨y, rfl⟩ := bex hby
          clear hby
          cases hq : exprL.shape t (d - 1) with
          | true =>
            have HR3 := HR.out
            rw [hq, Bool.true_and] at HR3
            have HR4 := hid HR3; clear HR3 hq
            go_wp2_with fail
            go_roundw
            case rel => exact ⟨j + 1, by omega, by go_num, (by repeat (first | exact Below.refl _ _ | assumption | refine below_a ?_ _ | refine below_o ?_ _ | refine below_d ?_ | refine below_n ?_ _ | refine below_s ?_ (by first | (simp; done) | (simp; omega) | omega) _)), by simp [go_sem, hsz], by simp [go_sem, hsz, q2], HR4⟩
            case measure => simp [intOf]; omega
          | false =>
            have HR3 := HR.out
            rw [hq, Bool.false_and] at HR3
            have HR4 := hid HR3; clear HR3 hq
            go_wp2_with fail
            go_ret
            exact Ret.mk (bool_val (HR4.out.trans E.out.symm)) (by repeat (first | exact Below.refl _ _ | assumption | refine below_a ?_ _ | refine below_o ?_ _ | refine below_d ?_ | refine below_n ?_ _ | refine below_s ?_ (by first | (simp; done) | (simp; omega) | omega) _))
        · have HR2 := hr.out
          rw [List.drop_of_length_le (by omega)] at HR2
          have HR := hid HR2; clear HR2
          go_wp2_with fail
          go_ret
          exact Ret.mk (bool_val (HR.out.trans E.out.symm)) hb
  · have hn1 : ((kids.length : Int) != arityV k) = true := by simpa using hn
    have E := hid (show exprL.shape (.mk k v kids) d = false by rw [E0.out, arityV_ok, decide_eq_false hn]; simp)
    clear hn
    go_enter Try.func51, Try.ntmps51
    go_wp2_with fail
    refine wp_region_over (by kernel_rfl) (by kernel_rfl) ?_; (repeat (go_big_quiet_step ((go_at_call 63; exact Calls.over (arity_any _ _))))); refine wpQuiet_nil ?_; rintro _ ⟨xq, rfl⟩
    go_wp2_with fail
    go_ret
    exact Ret.mk (bool_val E.out.symm) (by repeat (first | exact Below.refl _ _ | assumption | refine below_a ?_ _ | refine below_o ?_ _ | refine below_d ?_ | refine below_n ?_ _ | refine below_s ?_ (by first | (simp; done) | (simp; omega) | omega) _))

theorem shape_any : ∀ t, ShT t := fun t => Tr.ind (fun k v kids ih => shT_of k v kids ih) t

end Expr
end Go.Proofs.Ytdmieedfddgmjaa
namespace Go.Proofs.Ytdmieedfddgmjaa
open Go.RowKit
namespace Expr

def CntT (t : Tr) : Prop := ∀ (w : World) (x : Value) (d : Int), TrIn Any w t x → 0 ≤ d → d ≤ 6 → nodes t ≤ 1000 → Calls Try.prog 52 #[x, .int .i64 d] w (Ret (.int .i64 (cnt t d)) w)

set_option maxHeartbeats 1000000 in
theorem cntT_of (k v : Int) (kids : List Tr) (h : ∀ t, t ∈ kids → CntT t) : CntT (.mk k v kids) := by
  intro w x d hx hd1 hd2 hn
  rw [TrIn_mk] at hx
  obtain ⟨a, n, c, rfl, hk, hv, rfl, hc, hc2, hks⟩ := hx
  unfold maxLen at hc2
  have hbnd := cnt_le_nodesL kids (d - 1)
  simp only [nodes] at hn
  have E := hid (show cnt (.mk k v kids) d = 1 + if 0 < d then cntL kids (d - 1) else 0 by simp only [cnt])
  by_cases hd : 0 < d
  · go_enter Try.func52, Try.ntmps52
    go_wp2_with fail
    go_loopw [5, 6] (fun s i wr => ∃ (j : Nat) (m : Int), j ≤ kids.length ∧ s = .int .i64 m ∧ i = .int .i64 j ∧ 1 ≤ m ∧ m ≤ 1001 ∧ Below w.heap.size w wr ∧ w.heap.size < wr.heap.size ∧ wr.cell? ⟨w.heap.size, 2, none⟩ = some (.slice a kids.length c) ∧ Hid (m + cntL (kids.drop j) (d - 1) = 1 + cntL kids (d - 1)))
      (fun _ i _ => kids.length - (intOf i).toNat)
    case atStart => exact ⟨0, 1, Nat.zero_le _, rfl, rfl, by omega, by omega, (by repeat (first | exact Below.refl _ _ | assumption | refine below_a ?_ _ | refine below_o ?_ _ | refine below_d ?_ | refine below_n ?_ _ | refine below_s ?_ (by first | (simp; done) | (simp; omega) | omega) _)), by simp, by simp [go_sem], hid rfl⟩
    case round =>
      obtain ⟨j, m, hj, rfl, rfl, hm1, hm2, hb, hsz, q2, hr⟩ := hrel
      by_cases hlt : j < kids.length
      · obtain ⟨b, o, c0, c1, c2, t, rfl, gb, g0, g1, g2, hT⟩ := TrsIn_round hks hb hlt
        have HR2 := hr.out
        rw [hT.out.2.2.1] at HR2
        simp only [cntL] at HR2
        have hp := cntL_pos (kids.drop (j + 1)) (d - 1)
        have hp2 := cnt_pos t (d - 1)
        have hm3 : m + cnt t (d - 1) ≤ 1001 := by omega
        have HR := hid (show m + cnt t (d - 1) + cntL (kids.drop (j + 1)) (d - 1) = 1 + cntL kids (d - 1) by omega); clear HR2
        have htn : nodes t ≤ 1000 := by have := nodes_mem hT.out.2.1; omega
        clear hp
        go_wp2_with fail
        refine (h t hT.out.2.1 _ _ (d - 1) hT.out.1 (by omega) (by omega) htn).mono ?_
        rintro e w2 ⟨rfl, hby⟩
        obtain ⟨y, rfl⟩ := bex hby
        clear hby
        go_wp2_with fail
        go_roundw
        case rel => exact ⟨j + 1, m + cnt t (d - 1), by omega, rfl, by go_num, by omega, hm3, (by repeat (first | exact Below.refl _ _ | assumption | refine below_a ?_ _ | refine below_o ?_ _ | refine below_d ?_ | refine below_n ?_ _ | refine below_s ?_ (by first | (simp; done) | (simp; omega) | omega) _)), by simp [go_sem, hsz], by simp [go_sem, hsz, q2], HR⟩
        case measure => simp [intOf]; omega
      · have HR2 := hr.out
        rw [List.drop_of_length_le (by omega)] at HR2
        simp only [cntL] at HR2
        have HR := hid (show m = cnt (.mk k v kids) d by rw [E.out, if_pos hd]; omega); clear HR2
        go_wp2_with fail
        go_ret
        exact Ret.mk (int_val HR.out) hb
  · have E2 := hid (show cnt (.mk k v kids) d = 1 by rw [E.out, if_neg hd]; omega)
    go_enter Try.func52, Try.ntmps52
    go_wp2_with fail
    go_loopw [5, 6] (fun s i wr => s = .int .i64 1 ∧ i = .int .i64 0 ∧ Below w.heap.size w wr ∧ w.heap.size < wr.heap.size ∧ wr.cell? ⟨w.heap.size, 2, none⟩ = some (.slice a kids.length c)) (fun _ _ _ => 0)
    case atStart => exact ⟨rfl, rfl, (by repeat (first | exact Below.refl _ _ | assumption | refine below_a ?_ _ | refine below_o ?_ _ | refine below_d ?_ | refine below_n ?_ _ | refine below_s ?_ (by first | (simp; done) | (simp; omega) | omega) _)), by simp, by simp [go_sem]⟩
    case round =>
      obtain ⟨rfl, rfl, hb, hsz, q2⟩ := hrel
      by_cases hlt : 0 < kids.length
      all_goals
        go_wp2_with fail
        go_ret
        exact Ret.mk (int_val E2.out.symm) hb

theorem cnt_any : ∀ t, CntT t := fun t => Tr.ind (fun k v kids ih => cntT_of k v kids ih) t

set_option maxHeartbeats 400000 in
/-- the reference's ExprValid -/
theorem specValid_any (t : Tr) (w : World) (x : Value) (hx : TrIn Any w t x) : Calls Try.prog 35 #[x] w (Ret (.bool (exprL.valid t)) w) := by
  have hx0 := hx
  obtain ⟨a, c, rfl⟩ := TrIn_shape hx
  have E := hid (exprL.valid_cnt t)
  cases hs : exprL.shape t 6 with
  | false =>
    have E2 := E.out
    rw [hs, Bool.false_and] at E2
    have E3 := hid E2; clear E2
    go_enter Try.func35, Try.ntmps35
    go_wp2_with fail
    refine (shape_any t _ _ 6 (TrIn_alloc hx _) (by omega) (by omega)).mono ?_
    rintro e w2 ⟨rfl, hby⟩
    obtain ⟨y, rfl⟩ := bex hby
    clear hby
    rw [hs]
    clear hs
    go_wp2_with fail
    go_ret
    exact Ret.mk (bool_val E3.out.symm) (by repeat (first | exact Below.refl _ _ | assumption | refine below_a ?_ _ | refine below_o ?_ _ | refine below_d ?_ | refine below_n ?_ _ | refine below_s ?_ (by first | (simp; done) | (simp; omega) | omega) _))
  | true =>
    have E2 := E.out
    rw [hs, Bool.true_and] at E2
    have E3 := hid E2; clear E2
    have hn : nodes t ≤ 1000 := by have := Lang.nodes_cap exprL exprL_two t 6 hs; rw [Lang.cap6] at this; omega
    go_enter Try.func35, Try.ntmps35
    go_wp2_with fail
    refine (shape_any t _ _ 6 (TrIn_alloc hx _) (by omega) (by omega)).mono ?_
    rintro e w2 ⟨rfl, hby⟩
    obtain ⟨y, rfl⟩ := bex hby
    clear hby
    rw [hs]
    clear hs
    go_wp2_with fail
    refine (cnt_any t _ _ 6 (TrIn_over (TrIn_alloc hx _) _) (by omega) (by omega) hn).mono ?_
    rintro e w3 ⟨rfl, hby⟩
    obtain ⟨y2, rfl⟩ := bex hby
    clear hby
    go_wp2_with fail
    all_goals go_ret
    all_goals refine Ret.mk (bool_val ?_) (by repeat (first | exact Below.refl _ _ | assumption | refine below_a ?_ _ | refine below_o ?_ _ | refine below_d ?_ | refine below_n ?_ _ | refine below_s ?_ (by first | (simp; done) | (simp; omega) | omega) _))
    all_goals rw [E3.out]
    all_goals rfl

end Expr
end Go.Proofs.Ytdmieedfddgmjaa
namespace Go.Proofs.Ytdmieedfddgmjaa
open Go.RowKit

/-- is a number in a range -/
def inB (a b c : Int) : Bool := decide (b ≤ a ∧ a ≤ c)
set_option maxHeartbeats 400000 in
theorem in_any (a b c : Int) (w : World) : Calls Try.prog 40 #[.int .i64 a, .int .i64 b, .int .i64 c] w (RetW (.bool (inB a b c)) w) := by
  by_cases h1 : b ≤ a
  · have E := hid (show decide (a ≤ c) = inB a b c by simp [inB, h1])
    go_enter Try.func40, Try.ntmps40
    go_wp2_with fail
    go_ret
    exact ⟨congrArg (fun x => Ending.returned (.bool x)) E.out, rfl⟩
  · have E := hid (show false = inB a b c by simp [inB]; omega)
    go_enter Try.func40, Try.ntmps40
    go_wp2_with fail
    go_ret
    exact ⟨congrArg (fun x => Ending.returned (.bool x)) E.out, rfl⟩
theorem in_yes {a b c : Int} (h : b ≤ a ∧ a ≤ c) (w : World) : Calls Try.prog 40 #[.int .i64 a, .int .i64 b, .int .i64 c] w (RetW (.bool true) w) := by
  have := in_any a b c w
  rwa [inB, decide_eq_true h] at this
theorem in_no {a b c : Int} (h : ¬(b ≤ a ∧ a ≤ c)) (w : World) : Calls Try.prog 40 #[.int .i64 a, .int .i64 b, .int .i64 c] w (RetW (.bool false) w) := by
  have := in_any a b c w
  rwa [inB, decide_eq_false h] at this

theorem upd_past {w W W' : World} {R : Nat} {v : Value} (h : Upd W R v W') (hb : Below w.heap.size w W) (hR : R < w.heap.size) : Upd w R v W' :=
  (Upd.of_below hb hR).trans_below h
theorem Calls.over_same {P : Program} {f : FuncId} {args : Array Value} {w : World} {x : Over w} {v : Value} (h : Calls P f args (w.over x) (RetW v (w.over x))) :
    Calls P f args (w.over x) fun e w'' => e = .returned v ∧ ∃ m, w'' = w.over m :=
  h.mono fun _ _ ⟨he, hy⟩ => ⟨he, x, hy⟩

end Go.Proofs.Ytdmieedfddgmjaa
namespace Go.Proofs.Ytdmieedfddgmjaa
open Go.RowKit
namespace Expr
/-- what a call of walk comes to: the counter, in block R, is m behind it -/
def WkPost (v : Value) (R : Nat) (m : Int) (w : World) (e : Ending) (w' : World) : Prop := e = .returned v ∧ Upd w R (.int .i64 m) w'

def WkT (t : Tr) : Prop := ∀ (w : World) (x : Value) (R : Nat) (d n : Int), TrIn (· ≠ R) w t x → 1 ≤ d → d ≤ 7 → 0 ≤ n → n ≤ 15 →
    w.cell? ⟨R, 0, none⟩ = some (.int .i64 n) → w.frozen? ⟨R, 0, none⟩ = false →
    Calls Try.prog 62 #[x, .int .i64 d, .pointer (some ⟨R, 0, none⟩)] w (WkPost (.bool (exprL.wk t d n).1) R (exprL.wk t d n).2 w)

/-- the closure that ContainsFunc is handed: it walks a node one deeper, and tells whether that failed -/
def clo (D E : Nat) : Value := .func (.func 66) #[] #[.pointer (some ⟨D, 0, none⟩), .pointer (some ⟨E, 0, none⟩)]

set_option maxHeartbeats 400000 in
theorem clo_of (t : Tr) (h : WkT t) (w : World) (x : Value) (R D E : Nat) (d n : Int) (hx : TrIn (· ≠ R) w t x) (hd1 : 0 ≤ d) (hd2 : d ≤ 6) (hn1 : 0 ≤ n) (hn2 : n ≤ 15)
    (hD : w.cell? ⟨D, 0, none⟩ = some (.int .i64 d)) (hE : w.cell? ⟨E, 0, none⟩ = some (.pointer (some ⟨R, 0, none⟩))) (hR : w.cell? ⟨R, 0, none⟩ = some (.int .i64 n)) (hF : w.frozen? ⟨R, 0, none⟩ = false) :
    Calls Try.prog 66 #[x, .pointer (some ⟨D, 0, none⟩), .pointer (some ⟨E, 0, none⟩)] w (WkPost (.bool (!(exprL.wk t (d + 1) n).1)) R (exprL.wk t (d + 1) n).2 w) := by
  obtain ⟨a, c, rfl⟩ := TrIn_shape hx
  have lD := blt hD
  have lE := blt hE
  have lR : R < w.heap.size := blt hR
  go_enter Try.func66, Try.ntmps66
  go_wp2_with fail
  refine (h _ _ R (d + 1) n (TrIn_alloc hx _) (by omega) (by omega) hn1 hn2 (by simp [go_sem, lR, hR]) (by simp [go_sem, lR, hF])).mono ?_
  rintro e w2 ⟨rfl, hu⟩
  go_wp2_with fail
  go_ret
  exact ⟨rfl, upd_past hu (below_alloc _ _) lR⟩

/-- what a call of IndexFunc comes to: an index, not negative exactly where some node failed -/
def IxPost (bad : Bool) (R : Nat) (m : Int) (w : World) (e : Ending) (w' : World) : Prop := ∃ i : Int, e = .returned (.int .i64 i) ∧ decide (0 ≤ i) = bad ∧ Upd w R (.int .i64 m) w'

set_option maxHeartbeats 1000000 in
theorem ix_of (l : List Tr) (h : ∀ t, t ∈ l → WkT t) (w : World) (a : Option Addr) (c R D E : Nat) (d n : Int) (hl : TrsIn (· ≠ R) w l a) (hc : l.length ≤ c) (hc2 : c ≤ maxLen) (hd1 : 0 ≤ d) (hd2 : d ≤ 6) (hn1 : 0 ≤ n) (hn2 : n ≤ 15)
    (hD : w.cell? ⟨D, 0, none⟩ = some (.int .i64 d)) (hE : w.cell? ⟨E, 0, none⟩ = some (.pointer (some ⟨R, 0, none⟩))) (hR : w.cell? ⟨R, 0, none⟩ = some (.int .i64 n)) (hF : w.frozen? ⟨R, 0, none⟩ = false) (hDR : D ≠ R) (hER : E ≠ R) :
    Calls Try.prog 49 #[.slice a l.length c, clo D E] w (IxPost (!(exprL.wkL l (d + 1) n).1) R (exprL.wkL l (d + 1) n).2 w) := by
  unfold maxLen at hc2
  have lD := blt hD
  have lE := blt hE
  have lR : R < w.heap.size := blt hR
  unfold clo
  go_enter Try.func49, Try.ntmps49
  go_wp2_with fail
  go_loopw [5, 8] (fun _ i wr => ∃ (j : Nat) (m : Int), j ≤ l.length ∧ i = .int .i64 j ∧ 0 ≤ m ∧ m ≤ 15 ∧ Upd w R (.int .i64 m) wr ∧ Hid (exprL.wkL (l.drop j) (d + 1) m = exprL.wkL l (d + 1) n)) (fun _ i _ => l.length - (intOf i).toNat)
  case atStart => exact ⟨0, n, Nat.zero_le _, rfl, hn1, hn2, Upd.self hR, hid rfl⟩
  case round =>
    obtain ⟨j, m, hj, rfl, hm1, hm2, hu, hr⟩ := hrel
    have hl' := TrsIn_upd hu (fun b hb => hb) hl
    have qD := (hu.other (o := 0) lD hDR).trans hD
    have qE := (hu.other (o := 0) lE hER).trans hE
    have qR := hu.cell hR
    have qF := (hu.frozen (o := 0) lR).trans hF
    by_cases hlt : j < l.length
    · obtain ⟨b, o, c0, c1, c2, t, rfl, gb, g0, g1, g2, hT⟩ := TrsIn_round hl' (Below.refl _ _) hlt
      have HR2 := hr.out
      rw [hT.out.2.2.1] at HR2
      simp only [Lang.wkL] at HR2
      have HR := hid HR2; clear HR2
      have hbd := exprL.wk_bd t (d + 1) m hm2
      rw [exprL_N] at hbd
      go_wp2_with fail
      refine (clo_of t (h t hT.out.2.1) wr _ R D E d m hT.out.1 hd1 hd2 hm1 hm2 qD qE qR qF).mono ?_
      rintro e w2 ⟨rfl, hu2⟩
      have hu3 := hu.trans hu2
      cases hq : (exprL.wk t (d + 1) m).1 with
      | true =>
        have HR3 := HR.out
        rw [hq, if_pos rfl] at HR3
        have HR4 := hid HR3; clear HR3
        have hb2 := hbd.2.2 hq
        clear hq
        go_wp2_with fail
        go_roundw
        case rel => exact ⟨j + 1, (exprL.wk t (d + 1) m).2, by omega, by go_num, by omega, hb2, hu3, HR4⟩
        case measure => simp [intOf]; omega
      | false =>
        have HR3 := HR.out
        rw [hq, if_neg (by simp)] at HR3
        have HR4 := hid HR3; clear HR3 hq
        go_wp2_with fail
        go_ret
        exact ⟨j, rfl, by rw [← HR4.out]; simp, by rw [← HR4.out]; exact hu3⟩
    · have HR2 := hr.out
      rw [List.drop_of_length_le (by omega)] at HR2
      simp only [Lang.wkL] at HR2
      have HR := hid HR2; clear HR2
      go_wp2_with fail
      go_ret
      exact ⟨-1, rfl, by rw [← HR.out]; simp, by rw [← HR.out]; exact hu⟩

set_option maxHeartbeats 400000 in
theorem cf_of (l : List Tr) (h : ∀ t, t ∈ l → WkT t) (w : World) (a : Option Addr) (c R D E : Nat) (d n : Int) (hl : TrsIn (· ≠ R) w l a) (hc : l.length ≤ c) (hc2 : c ≤ maxLen) (hd1 : 0 ≤ d) (hd2 : d ≤ 6) (hn1 : 0 ≤ n) (hn2 : n ≤ 15)
    (hD : w.cell? ⟨D, 0, none⟩ = some (.int .i64 d)) (hE : w.cell? ⟨E, 0, none⟩ = some (.pointer (some ⟨R, 0, none⟩))) (hR : w.cell? ⟨R, 0, none⟩ = some (.int .i64 n)) (hF : w.frozen? ⟨R, 0, none⟩ = false) (hDR : D ≠ R) (hER : E ≠ R) :
    Calls Try.prog 32 #[.slice a l.length c, clo D E] w (WkPost (.bool (!(exprL.wkL l (d + 1) n).1)) R (exprL.wkL l (d + 1) n).2 w) := by
  have H := ix_of l h w a c R D E d n hl hc hc2 hd1 hd2 hn1 hn2 hD hE hR hF hDR hER
  have HH := hid H; clear H hD hE hR hF
  unfold clo at HH ⊢
  go_enter Try.func32, Try.ntmps32
  go_wp2_with fail
  refine HH.out.mono ?_
  rintro e w2 ⟨i, rfl, hi, hu⟩
  have HI := hid hi; clear hi
  go_wp2_with fail
  go_ret
  exact ⟨congrArg (fun x => Ending.returned (.bool x)) HI.out, hu⟩


end Expr
end Go.Proofs.Ytdmieedfddgmjaa
namespace Go.Proofs.Ytdmieedfddgmjaa
open Go.RowKit
namespace Expr
set_option maxHeartbeats 2000000 in
theorem wk_of (k v : Int) (kids : List Tr) (h : ∀ t, t ∈ kids → WkT t) : WkT (.mk k v kids) := by
  intro w x R d n hx hd1 hd2 hn1 hn2 hR hF
  rw [TrIn_mk] at hx
  obtain ⟨a, n', c, rfl, hk, hv, rfl, hc, hc2, hks⟩ := hx
  have lR : R < w.heap.size := blt hR
  have hE0 := hid (show exprL.wk (.mk k v kids) d n = if 6 < d ∨ exprL.N < n + 1 ∨ exprL.okB k v kids.length = false then (false, n + 1) else exprL.wkL kids (d + 1) (n + 1) by simp only [Lang.wk])
  have lR1 : R < w.heap.size + 1 := by omega
  have lR2 : R < w.heap.size + 1 + 1 := by omega
  have lR3 : R < w.heap.size + 1 + 1 + 1 := by omega
  go_enter Try.func62, Try.ntmps62
  go_upto_block 0 with fail
  go_cut [7, 8] (fun s7 s8 wx => s7 = .int .i64 (exprL.ar k) ∧ s8 = .int .i64 (exprL.most k) ∧ Upd w R (.int .i64 (n + 1)) wx ∧ w.heap.size + 1 + 1 < wx.heap.size ∧ wx.cell? ⟨w.heap.size, 0, none⟩ = some (.int .i64 k) ∧ wx.cell? ⟨w.heap.size, 1, none⟩ = some (.int .i64 v) ∧ wx.cell? ⟨w.heap.size, 2, none⟩ = some (.slice a kids.length c) ∧
    wx.cell? ⟨w.heap.size + 1, 0, none⟩ = some (.int .i64 d) ∧ wx.cell? ⟨w.heap.size + 1 + 1, 0, none⟩ = some (.pointer (some ⟨R, 0, none⟩)))
  case first =>
    go_wp2_with fail
    all_goals go_meet
    all_goals refine ⟨int_val ?_, int_val ?_, Upd.of (by repeat (first | exact Below.refl _ _ | assumption | refine below_a ?_ _ | refine below_o ?_ _ | refine below_d ?_ | refine below_n ?_ _ | refine below_s ?_ (by first | (simp; done) | (simp; omega) | omega) _)), by simp, by simp [go_sem], by simp [go_sem], by simp [go_sem], by simp [go_sem], by simp [go_sem]⟩
    all_goals first
      | (have e := ‹(k == 1) = true›; simp at e; first | rw [exprL_ar, if_pos (.inl e)] | rw [exprL_most, if_pos e])
      | (have e1 := ‹(k == 1) = false›; have e := ‹(k == 2) = true›; simp at e1 e; first | rw [exprL_ar, if_pos (.inr e)] | rw [exprL_most, if_neg e1, if_pos e])
      | (have e1 := ‹(k == 1) = false›; have e2 := ‹(k == 2) = false›; have e := ‹(k == 3) = true›; simp at e1 e2 e; first | rw [exprL_ar, if_neg (by omega), if_pos e] | rw [exprL_most, if_neg e1, if_neg e2])
      | (have e1 := ‹(k == 1) = false›; have e2 := ‹(k == 2) = false›; have e := ‹(k == 3) = false›; simp at e1 e2 e; first | rw [exprL_ar, if_neg (by omega), if_neg e] | rw [exprL_most, if_neg e1, if_neg e2])
  case rest =>
    obtain ⟨rfl, rfl, hu, hsz, q0, q1, q2, qd, qp⟩ := hcut
    have qR := hu.cell hR
    have qF := (hu.frozen (o := 0) lR).trans hF
    by_cases c1 : 6 < d
    · have E := hid (show exprL.wk (.mk k v kids) d n = (false, n + 1) by rw [hE0.out, if_pos (.inl c1)])
      go_wp2_with fail
      go_ret
      exact ⟨by rw [E.out]; rfl, by rw [E.out]; exact hu⟩
    by_cases c2 : 15 < n + 1
    · have E := hid (show exprL.wk (.mk k v kids) d n = (false, n + 1) by rw [hE0.out, if_pos (.inr (.inl c2))])
      go_wp2_with fail
      go_ret
      exact ⟨by rw [E.out]; rfl, by rw [E.out]; exact hu⟩
    have hno : ∀ (hh : ¬((1 ≤ k ∧ k ≤ 9) ∧ (0 ≤ v ∧ v ≤ exprL.most k) ∧ (kids.length : Int) = exprL.ar k)), exprL.wk (.mk k v kids) d n = (false, n + 1) := fun hh => by
      rw [hE0.out, if_pos (.inr (.inr (exprL.okB_no hh)))]
    have HNO := hid hno; clear hno
    by_cases c3 : 1 ≤ k ∧ k ≤ 9
    · by_cases c4 : 0 ≤ v ∧ v ≤ exprL.most k
      · by_cases c5 : (kids.length : Int) = exprL.ar k
        · have E := hid (show exprL.wk (.mk k v kids) d n = exprL.wkL kids (d + 1) (n + 1) by
            rw [hE0.out, if_neg]
            rintro (h1 | h1 | h1)
            · exact c1 h1
            · exact c2 h1
            · rw [exprL.okB_iff.2 ⟨c3, c4, c5⟩] at h1; cases h1)
          have e5 : ((kids.length : Int) != exprL.ar k) = false := by simpa using c5
          clear c5 HNO
          go_wp2_with fail
          refine (in_yes c3 _).mono ?_
          rintro e w' ⟨rfl, rfl⟩
          go_wp2_with fail
          refine (in_yes c4 _).mono ?_
          rintro e w' ⟨rfl, rfl⟩
          go_wp2_with fail
          refine (cf_of kids h _ a c R (w.heap.size + 1) (w.heap.size + 1 + 1) d (n + 1) (TrsIn_upd hu (fun b hb => hb) hks) hc hc2 (by omega) (by omega) (by omega) (by omega) qd qp qR qF (by omega) (by omega)).mono ?_
          rintro e w' ⟨rfl, hu2⟩
          go_wp2_with fail
          go_ret
          exact ⟨by rw [E.out]; simp, by rw [E.out]; exact hu.trans hu2⟩
        · have E := hid (HNO.out (fun hh => c5 hh.2.2))
          have e5 : ((kids.length : Int) != exprL.ar k) = true := by simpa using c5
          clear c5 HNO
          go_wp2_with fail
          refine (in_yes c3 _).mono ?_
          rintro e w' ⟨rfl, rfl⟩
          go_wp2_with fail
          refine (in_yes c4 _).mono ?_
          rintro e w' ⟨rfl, rfl⟩
          go_wp2_with fail
          go_ret
          exact ⟨by rw [E.out]; rfl, by rw [E.out]; exact hu⟩
      · have E := hid (HNO.out (fun hh => c4 hh.2.1))
        clear HNO
        go_wp2_with fail
        refine (in_yes c3 _).mono ?_
        rintro e w' ⟨rfl, rfl⟩
        go_wp2_with fail
        refine (in_no c4 _).mono ?_
        rintro e w' ⟨rfl, rfl⟩
        go_wp2_with fail
        go_ret
        exact ⟨by rw [E.out]; rfl, by rw [E.out]; exact hu⟩
    · have E := hid (HNO.out (fun hh => c3 hh.1))
      clear HNO
      go_wp2_with fail
      refine (in_no c3 _).mono ?_
      rintro e w' ⟨rfl, rfl⟩
      go_wp2_with fail
      go_ret
      exact ⟨by rw [E.out]; rfl, by rw [E.out]; exact hu⟩

theorem wk_any : ∀ t, WkT t := fun t => Tr.ind (fun k v kids ih => wk_of k v kids ih) t

end Expr
end Go.Proofs.Ytdmieedfddgmjaa
namespace Go.Proofs.Ytdmieedfddgmjaa
open Go.RowKit
namespace Expr
set_option maxHeartbeats 400000 in
theorem nodes_any (t : Tr) (w : World) (x : Value) (hx : TrIn Any w t x) : Calls Try.prog 50 #[x] w (Ret (.int .i64 (exprL.size t)) w) := by
  have hx0 := hx
  obtain ⟨a, c, rfl⟩ := TrIn_shape hx
  have E := hid (exprL.size_wk t)
  go_enter Try.func50, Try.ntmps50
  go_wp2_with fail
  refine (wk_any t _ _ (w.heap.size + 1) 1 0 (TrIn_alloc (TrIn_alloc (TrIn_mono (fun b hb => by omega) (TrIn_old hx)) _) _) (by omega) (by omega) (by omega) (by omega) (by simp [go_sem]) (by simp [go_sem])).mono ?_
  rintro e w' ⟨rfl, hu⟩
  have qR := hu.cell (u := .int .i64 0) (by simp [go_sem])
  cases hq : (exprL.wk t 1 0).1 with
  | true =>
    have E2 := E.out
    rw [hq, if_pos rfl] at E2
    have E3 := hid E2; clear E2 hq
    go_wp2_with fail
    go_ret
    exact Ret.mk (int_val E3.out.symm) (hu.new (by repeat (first | exact Below.refl _ _ | assumption | refine below_a ?_ _ | refine below_o ?_ _ | refine below_d ?_ | refine below_n ?_ _ | refine below_s ?_ (by first | (simp; done) | (simp; omega) | omega) _)) (by omega))
  | false =>
    have E2 := E.out
    rw [hq, if_neg (by simp)] at E2
    have E3 := hid E2; clear E2 hq
    go_wp2_with fail
    go_ret
    exact Ret.mk (int_val E3.out.symm) (hu.new (by repeat (first | exact Below.refl _ _ | assumption | refine below_a ?_ _ | refine below_o ?_ _ | refine below_d ?_ | refine below_n ?_ _ | refine below_s ?_ (by first | (simp; done) | (simp; omega) | omega) _)) (by omega))

set_option maxHeartbeats 400000 in
theorem valid_any (t : Tr) (w : World) (x : Value) (hx : TrIn Any w t x) : Calls Try.prog 34 #[x] w (Ret (.bool (exprL.valid t)) w) := by
  have hx0 := hx
  obtain ⟨a, c, rfl⟩ := TrIn_shape hx
  have E := hid (exprL.valid_size t)
  go_enter Try.func34, Try.ntmps34
  go_wp2_with fail
  refine (nodes_any t _ _ (TrIn_alloc hx _)).mono ?_
  rintro e w' ⟨rfl, hby⟩
  obtain ⟨y, rfl⟩ := bex hby
  clear hby
  go_wp2_with fail
  go_ret
  exact Ret.mk (bool_val E.out.symm) (by repeat (first | exact Below.refl _ _ | assumption | refine below_a ?_ _ | refine below_o ?_ _ | refine below_d ?_ | refine below_n ?_ _ | refine below_s ?_ (by first | (simp; done) | (simp; omega) | omega) _))

end Expr
end Go.Proofs.Ytdmieedfddgmjaa
namespace Go.Proofs.Ytdmieedfddgmjaa
open Go.RowKit
namespace Expr



end Expr
end Go.Proofs.Ytdmieedfddgmjaa
namespace Go.Proofs.Ytdmieedfddgmjaa
open Go.RowKit

/-- of the world where the walk stands only this is kept -/
theorem wp_gen {P : Program} {C : Code} {Q : Exit → Act → World → Prop} {a : Act} {w0 : World} (R : World → Prop) (h0 : R w0) (h : ∀ W, R W → C.wp P Q a W) : C.wp P Q a w0 := h _ h0
/-- three cells of an old node, in a later world -/
theorem cells_next {w W : World} (B : Below w.heap.size w W) {b o : Nat} {c0 c1 c2 : Value} (hb : b < w.heap.size) (g0 : w.cell? ⟨b, o, none⟩ = some c0) (g1 : w.cell? ⟨b, o + 1, none⟩ = some c1) (g2 : w.cell? ⟨b, o + 2, none⟩ = some c2) :
    W.cell? ⟨b, o, none⟩ = some c0 ∧ W.cell? ⟨b, o + 1, none⟩ = some c1 ∧ W.cell? ⟨b, o + 2, none⟩ = some c2 :=
  ⟨(B.cell (p := ⟨b, o, none⟩) hb).trans g0, (B.cell (p := ⟨b, o + 1, none⟩) hb).trans g1, (B.cell (p := ⟨b, o + 2, none⟩) hb).trans g2⟩

end Go.Proofs.Ytdmieedfddgmjaa
