/- Joined texts (TrPlain, EdgeIn, SysIn, RegOrd, RowsMade, ValidPlain): contracts and plain laws. Conditions: those of each theorem. -/
import Derived.Test.YtfemikebklmlpaaJV0
import Derived.Test.YtfemikebklmlpaaJV1
import Derived.Test.YtfemikebklmlpaaRows
import Derived.Maps.AppendAt
import Derived.WalkSpells
import Derived.WalkLawsBesides
set_option linter.unusedVariables false
set_option linter.unusedSimpArgs false
namespace Go.Proofs.Ytfemikebklmlpaa

mutual
/-- what is left of a number when the lengths of all rows of nodes are taken from it; -1: too little -/
def szT : Tr → Int → Int
  | .mk _ _ kids, left => if szL kids (left - kids.length) < 0 then -1 else szL kids (left - kids.length)
def szL : List Tr → Int → Int
  | [], left => if left < 0 then -1 else left
  | t :: ts, left => if left < 0 then -1 else szL ts (szT t left)
end

mutual
theorem szT_bd : ∀ (t : Tr) (left : Int), -1 ≤ left → left ≤ 1048576 → -1 ≤ szT t left ∧ szT t left ≤ 1048576
  | .mk _ _ kids, left, h1, h2 => by
    simp only [szT]
    split
    · omega
    · rename_i h
      have := szL_bd kids (left - kids.length) (by omega)
      omega
theorem szL_bd : ∀ (l : List Tr) (left : Int), left ≤ 1048576 → -1 ≤ szL l left ∧ szL l left ≤ 1048576
  | [], left, h => by simp only [szL]; split <;> omega
  | t :: ts, left, h => by
    simp only [szL]
    split
    · omega
    · have := szT_bd t left (by omega) h
      exact szL_bd ts _ this.2
end

theorem szL_neg (l : List Tr) (left : Int) (h : left < 0) : szL l left = -1 := by
  cases l <;> (simp only [szL]; rw [if_pos h])

mutual
/-- no row of nodes is longer than 2^20 -/
def Small : Tr → Prop | .mk _ _ kids => kids.length ≤ 1048576 ∧ SmallL kids
def SmallL : List Tr → Prop | [] => True | t :: ts => Small t ∧ SmallL ts
end

mutual
theorem small_of_sz : ∀ (t : Tr) (left : Int), left ≤ 1048576 → 0 ≤ szT t left → Small t
  | .mk _ _ kids, left, h1, h2 => by
    simp only [szT] at h2
    split at h2
    · omega
    · rename_i h
      by_cases hn : left - kids.length < 0
      · rw [szL_neg _ _ hn] at h; omega
      · exact ⟨by omega, smallL_of_sz kids (left - kids.length) (by omega) (by omega)⟩
theorem smallL_of_sz : ∀ (l : List Tr) (left : Int), left ≤ 1048576 → 0 ≤ szL l left → SmallL l
  | [], _, _, _ => trivial
  | t :: ts, left, h1, h2 => by
    simp only [szL] at h2
    split at h2
    · omega
    · by_cases hn : szT t left < 0
      · rw [szL_neg _ _ hn] at h2; omega
      · exact ⟨small_of_sz t left h1 (by omega), smallL_of_sz ts _ (by have := szT_bd t left (by omega) h1; omega) h2⟩
end

theorem smallL_mem {t : Tr} : ∀ {l : List Tr}, SmallL l → t ∈ l → Small t := by
  intro l
  induction l with
  | nil => intro _ h; cases h
  | cons u us ih =>
    intro h hm
    cases hm with
    | head => exact h.1
    | tail _ hm => exact ih h.2 hm

mutual
/-- are two trees the same, asked node by node -/
def eqT : Tr → Tr → Bool
  | .mk k v l, .mk k' v' l' => k == k' && (v == v' && eqL l l')
def eqL : List Tr → List Tr → Bool
  | [], [] => true
  | t :: ts, u :: us => eqT t u && eqL ts us
  | _, _ => false
end

mutual
theorem eqT_refl : ∀ t, eqT t t = true
  | .mk k v l => by simp [eqT, eqL_refl l]
theorem eqL_refl : ∀ l, eqL l l = true
  | [] => by simp [eqL]
  | t :: ts => by simp [eqL, eqT_refl t, eqL_refl ts]
end
mutual
theorem eqT_iff : ∀ t u, eqT t u = true → t = u
  | .mk k v l, .mk k' v' l', h => by
    simp only [eqT, Bool.and_eq_true, beq_iff_eq] at h
    obtain ⟨rfl, rfl, h⟩ := h
    rw [eqL_iff l l' h]
theorem eqL_iff : ∀ l m, eqL l m = true → l = m
  | [], [], _ => rfl
  | [], _ :: _, h => by simp [eqL] at h
  | _ :: _, [], h => by simp [eqL] at h
  | t :: ts, u :: us, h => by
    simp only [eqL, Bool.and_eq_true] at h
    rw [eqT_iff t u h.1, eqL_iff ts us h.2]
end
theorem eqT_true {t u : Tr} : eqT t u = true ↔ t = u := ⟨eqT_iff t u, fun h => h ▸ eqT_refl t⟩
theorem eqT_symm (t u : Tr) : eqT t u = eqT u t := by
  rw [Bool.eq_iff_iff, eqT_true, eqT_true]
  exact ⟨Eq.symm, Eq.symm⟩
theorem eqL_len : ∀ (l m : List Tr), l.length ≠ m.length → eqL l m = false
  | [], [], h => by simp at h
  | [], _ :: _, _ => by simp [eqL]
  | _ :: _, [], _ => by simp [eqL]
  | t :: ts, u :: us, h => by simp only [eqL]; rw [eqL_len ts us (by simpa using h)]; simp

/-- behind k nodes that are the same: the answer hangs on the rest -/
theorem eqL_drop {l m : List Tr} {k : Nat} {t u : Tr} (ht : l.drop k = t :: l.drop (k + 1)) (hu : m.drop k = u :: m.drop (k + 1)) (h : eqL (l.drop k) (m.drop k) = eqL l m) :
    eqL l m = (eqT t u && eqL (l.drop (k + 1)) (m.drop (k + 1))) := by
  rw [← h, ht, hu]
  simp only [eqL]

end Go.Proofs.Ytfemikebklmlpaa
namespace Go.Proofs.Ytfemikebklmlpaa
open Go.RowKit

/-- an edge -/
structure Ed where
  src : Int
  dst : Int
  guard : Tr
  var : Int
  val : Tr
  sync : Int
/-- the ten cells of an edge -/
def Ed.cells (e : Ed) (a : Option Addr) (c : Nat) (a' : Option Addr) (c' : Nat) : List Value :=
  [.int .i64 e.src, .int .i64 e.dst, .int .i64 e.guard.kind, .int .i64 e.guard.val, .slice a e.guard.kids.length c, .int .i64 e.var, .int .i64 e.val.kind, .int .i64 e.val.val, .slice a' e.val.kids.length c', .int .i64 e.sync]
/-- AN EDGE IN MEMORY -/
def EdIn (p : Nat → Prop) (w : World) (e : Ed) (x : Value) : Prop := ∃ a c a' c', x = .agg #[.int .i64 e.src, .int .i64 e.dst, .int .i64 e.guard.kind, .int .i64 e.guard.val, .slice a e.guard.kids.length c, .int .i64 e.var, .int .i64 e.val.kind, .int .i64 e.val.val, .slice a' e.val.kids.length c', .int .i64 e.sync] ∧
  i64 e.src ∧ i64 e.dst ∧ i64 e.var ∧ i64 e.sync ∧ TrIn p w e.guard (.agg #[.int .i64 e.guard.kind, .int .i64 e.guard.val, .slice a e.guard.kids.length c]) ∧ TrIn p w e.val (.agg #[.int .i64 e.val.kind, .int .i64 e.val.val, .slice a' e.val.kids.length c'])
theorem EdIn_below {p : Nat → Prop} {w w' : World} {e : Ed} {x : Value} (hb : Below w.heap.size w w') (h : EdIn p w e x) : EdIn p w' e x := by
  obtain ⟨a, c, a', c', h0, h1, h2, h3, h4, h5, h6⟩ := h
  exact ⟨a, c, a', c', h0, h1, h2, h3, h4, TrIn_below hb h5, TrIn_below hb h6⟩

/-! ### variables of ten cells -/
def Box10 (w : World) (B : Nat) (a0 a1 a2 a3 a4 a5 a6 a7 a8 a9 : Value) : Prop := B < w.heap.size ∧
  (w.cell? ⟨B, 0, none⟩ = some a0 ∧ w.cell? ⟨B, 1, none⟩ = some a1 ∧ w.cell? ⟨B, 2, none⟩ = some a2 ∧ w.cell? ⟨B, 3, none⟩ = some a3 ∧ w.cell? ⟨B, 4, none⟩ = some a4 ∧ w.cell? ⟨B, 5, none⟩ = some a5 ∧ w.cell? ⟨B, 6, none⟩ = some a6 ∧ w.cell? ⟨B, 7, none⟩ = some a7 ∧ w.cell? ⟨B, 8, none⟩ = some a8 ∧ w.cell? ⟨B, 9, none⟩ = some a9) ∧
  (w.frozen? ⟨B, 0, none⟩ = false ∧ w.frozen? ⟨B, 1, none⟩ = false ∧ w.frozen? ⟨B, 2, none⟩ = false ∧ w.frozen? ⟨B, 3, none⟩ = false ∧ w.frozen? ⟨B, 4, none⟩ = false ∧ w.frozen? ⟨B, 5, none⟩ = false ∧ w.frozen? ⟨B, 6, none⟩ = false ∧ w.frozen? ⟨B, 7, none⟩ = false ∧ w.frozen? ⟨B, 8, none⟩ = false ∧ w.frozen? ⟨B, 9, none⟩ = false)
theorem box10_block {w w' : World} {B : Nat} {a0 a1 a2 a3 a4 a5 a6 a7 a8 a9 : Value} (h : w'.heap[B]? = w.heap[B]?) (hs : w.heap.size ≤ w'.heap.size) (hb : Box10 w B a0 a1 a2 a3 a4 a5 a6 a7 a8 a9) : Box10 w' B a0 a1 a2 a3 a4 a5 a6 a7 a8 a9 := by
  obtain ⟨h0, hc, hf⟩ := hb
  have ec : ∀ i, w'.cell? ⟨B, i, none⟩ = w.cell? ⟨B, i, none⟩ := fun i => World.cell?_of_block (w := w) (a := ⟨B, i, none⟩) h
  have ef : ∀ i, w'.frozen? ⟨B, i, none⟩ = w.frozen? ⟨B, i, none⟩ := fun i => World.frozen?_of_block (w := w) (a := ⟨B, i, none⟩) h
  refine ⟨Nat.lt_of_lt_of_le h0 hs, ?_, ?_⟩
  · simp only [ec]; exact hc
  · simp only [ef]; exact hf
theorem box10_next {w w' : World} (h : Below w.heap.size w w') {B : Nat} {a0 a1 a2 a3 a4 a5 a6 a7 a8 a9 : Value} (hb : Box10 w B a0 a1 a2 a3 a4 a5 a6 a7 a8 a9) : Box10 w' B a0 a1 a2 a3 a4 a5 a6 a7 a8 a9 :=
  box10_block (h.block B hb.1) h.size hb
theorem box10_new (w : World) (a0 a1 a2 a3 a4 a5 a6 a7 a8 a9 : Value) (t : TypeId) : Box10 (w.alloc (.cells #[a0, a1, a2, a3, a4, a5, a6, a7, a8, a9] t)) w.heap.size a0 a1 a2 a3 a4 a5 a6 a7 a8 a9 :=
  ⟨by simp, by simp, by simp⟩
theorem box10_at {w : World} {B : Nat} (hB : B = w.heap.size) (a0 a1 a2 a3 a4 a5 a6 a7 a8 a9 : Value) (t : TypeId) : Box10 (w.alloc (.cells #[a0, a1, a2, a3, a4, a5, a6, a7, a8, a9] t)) B a0 a1 a2 a3 a4 a5 a6 a7 a8 a9 := by subst hB; exact box10_new ..

theorem box10_but {w w' : World} {D : Nat} (h : But w D w') {B : Nat} {a0 a1 a2 a3 a4 a5 a6 a7 a8 a9 : Value} (hd : B ≠ D) (hb : Box10 w B a0 a1 a2 a3 a4 a5 a6 a7 a8 a9) : Box10 w' B a0 a1 a2 a3 a4 a5 a6 a7 a8 a9 :=
  box10_block (h.block B hb.1 hd) h.size hb
theorem box10_set0 {w : World} {B : Nat} {a0 a1 a2 a3 a4 a5 a6 a7 a8 a9 : Value} (h : Box10 w B a0 a1 a2 a3 a4 a5 a6 a7 a8 a9) (v : Value) : Box10 (w.setCell ⟨B, 0, none⟩ v) B v a1 a2 a3 a4 a5 a6 a7 a8 a9 := by
  obtain ⟨h0, ⟨c0, c1, c2, c3, c4, c5, c6, c7, c8, c9⟩, hf⟩ := h
  exact ⟨by simpa using h0, ⟨World.cell?_setCell_same _ _ _ c0, by rw [World.cell?_setCell_other _ _ _ _ (by simp)]; exact c1, by rw [World.cell?_setCell_other _ _ _ _ (by simp)]; exact c2, by rw [World.cell?_setCell_other _ _ _ _ (by simp)]; exact c3, by rw [World.cell?_setCell_other _ _ _ _ (by simp)]; exact c4, by rw [World.cell?_setCell_other _ _ _ _ (by simp)]; exact c5, by rw [World.cell?_setCell_other _ _ _ _ (by simp)]; exact c6, by rw [World.cell?_setCell_other _ _ _ _ (by simp)]; exact c7, by rw [World.cell?_setCell_other _ _ _ _ (by simp)]; exact c8, by rw [World.cell?_setCell_other _ _ _ _ (by simp)]; exact c9⟩, by simpa using hf⟩
theorem box10_set1 {w : World} {B : Nat} {a0 a1 a2 a3 a4 a5 a6 a7 a8 a9 : Value} (h : Box10 w B a0 a1 a2 a3 a4 a5 a6 a7 a8 a9) (v : Value) : Box10 (w.setCell ⟨B, 1, none⟩ v) B a0 v a2 a3 a4 a5 a6 a7 a8 a9 := by
  obtain ⟨h0, ⟨c0, c1, c2, c3, c4, c5, c6, c7, c8, c9⟩, hf⟩ := h
  exact ⟨by simpa using h0, ⟨by rw [World.cell?_setCell_other _ _ _ _ (by simp)]; exact c0, World.cell?_setCell_same _ _ _ c1, by rw [World.cell?_setCell_other _ _ _ _ (by simp)]; exact c2, by rw [World.cell?_setCell_other _ _ _ _ (by simp)]; exact c3, by rw [World.cell?_setCell_other _ _ _ _ (by simp)]; exact c4, by rw [World.cell?_setCell_other _ _ _ _ (by simp)]; exact c5, by rw [World.cell?_setCell_other _ _ _ _ (by simp)]; exact c6, by rw [World.cell?_setCell_other _ _ _ _ (by simp)]; exact c7, by rw [World.cell?_setCell_other _ _ _ _ (by simp)]; exact c8, by rw [World.cell?_setCell_other _ _ _ _ (by simp)]; exact c9⟩, by simpa using hf⟩
theorem box10_set2 {w : World} {B : Nat} {a0 a1 a2 a3 a4 a5 a6 a7 a8 a9 : Value} (h : Box10 w B a0 a1 a2 a3 a4 a5 a6 a7 a8 a9) (v : Value) : Box10 (w.setCell ⟨B, 2, none⟩ v) B a0 a1 v a3 a4 a5 a6 a7 a8 a9 := by
  obtain ⟨h0, ⟨c0, c1, c2, c3, c4, c5, c6, c7, c8, c9⟩, hf⟩ := h
  exact ⟨by simpa using h0, ⟨by rw [World.cell?_setCell_other _ _ _ _ (by simp)]; exact c0, by rw [World.cell?_setCell_other _ _ _ _ (by simp)]; exact c1, World.cell?_setCell_same _ _ _ c2, by rw [World.cell?_setCell_other _ _ _ _ (by simp)]; exact c3, by rw [World.cell?_setCell_other _ _ _ _ (by simp)]; exact c4, by rw [World.cell?_setCell_other _ _ _ _ (by simp)]; exact c5, by rw [World.cell?_setCell_other _ _ _ _ (by simp)]; exact c6, by rw [World.cell?_setCell_other _ _ _ _ (by simp)]; exact c7, by rw [World.cell?_setCell_other _ _ _ _ (by simp)]; exact c8, by rw [World.cell?_setCell_other _ _ _ _ (by simp)]; exact c9⟩, by simpa using hf⟩
theorem box10_set3 {w : World} {B : Nat} {a0 a1 a2 a3 a4 a5 a6 a7 a8 a9 : Value} (h : Box10 w B a0 a1 a2 a3 a4 a5 a6 a7 a8 a9) (v : Value) : Box10 (w.setCell ⟨B, 3, none⟩ v) B a0 a1 a2 v a4 a5 a6 a7 a8 a9 := by
  obtain ⟨h0, ⟨c0, c1, c2, c3, c4, c5, c6, c7, c8, c9⟩, hf⟩ := h
  exact ⟨by simpa using h0, ⟨by rw [World.cell?_setCell_other _ _ _ _ (by simp)]; exact c0, by rw [World.cell?_setCell_other _ _ _ _ (by simp)]; exact c1, by rw [World.cell?_setCell_other _ _ _ _ (by simp)]; exact c2, World.cell?_setCell_same _ _ _ c3, by rw [World.cell?_setCell_other _ _ _ _ (by simp)]; exact c4, by rw [World.cell?_setCell_other _ _ _ _ (by simp)]; exact c5, by rw [World.cell?_setCell_other _ _ _ _ (by simp)]; exact c6, by rw [World.cell?_setCell_other _ _ _ _ (by simp)]; exact c7, by rw [World.cell?_setCell_other _ _ _ _ (by simp)]; exact c8, by rw [World.cell?_setCell_other _ _ _ _ (by simp)]; exact c9⟩, by simpa using hf⟩
theorem box10_set4 {w : World} {B : Nat} {a0 a1 a2 a3 a4 a5 a6 a7 a8 a9 : Value} (h : Box10 w B a0 a1 a2 a3 a4 a5 a6 a7 a8 a9) (v : Value) : Box10 (w.setCell ⟨B, 4, none⟩ v) B a0 a1 a2 a3 v a5 a6 a7 a8 a9 := by
  obtain ⟨h0, ⟨c0, c1, c2, c3, c4, c5, c6, c7, c8, c9⟩, hf⟩ := h
  exact ⟨by simpa using h0, ⟨by rw [World.cell?_setCell_other _ _ _ _ (by simp)]; exact c0, by rw [World.cell?_setCell_other _ _ _ _ (by simp)]; exact c1, by rw [World.cell?_setCell_other _ _ _ _ (by simp)]; exact c2, by rw [World.cell?_setCell_other _ _ _ _ (by simp)]; exact c3, World.cell?_setCell_same _ _ _ c4, by rw [World.cell?_setCell_other _ _ _ _ (by simp)]; exact c5, by rw [World.cell?_setCell_other _ _ _ _ (by simp)]; exact c6, by rw [World.cell?_setCell_other _ _ _ _ (by simp)]; exact c7, by rw [World.cell?_setCell_other _ _ _ _ (by simp)]; exact c8, by rw [World.cell?_setCell_other _ _ _ _ (by simp)]; exact c9⟩, by simpa using hf⟩
theorem box10_set5 {w : World} {B : Nat} {a0 a1 a2 a3 a4 a5 a6 a7 a8 a9 : Value} (h : Box10 w B a0 a1 a2 a3 a4 a5 a6 a7 a8 a9) (v : Value) : Box10 (w.setCell ⟨B, 5, none⟩ v) B a0 a1 a2 a3 a4 v a6 a7 a8 a9 := by
  obtain ⟨h0, ⟨c0, c1, c2, c3, c4, c5, c6, c7, c8, c9⟩, hf⟩ := h
  exact ⟨by simpa using h0, ⟨by rw [World.cell?_setCell_other _ _ _ _ (by simp)]; exact c0, by rw [World.cell?_setCell_other _ _ _ _ (by simp)]; exact c1, by rw [World.cell?_setCell_other _ _ _ _ (by simp)]; exact c2, by rw [World.cell?_setCell_other _ _ _ _ (by simp)]; exact c3, by rw [World.cell?_setCell_other _ _ _ _ (by simp)]; exact c4, World.cell?_setCell_same _ _ _ c5, by rw [World.cell?_setCell_other _ _ _ _ (by simp)]; exact c6, by rw [World.cell?_setCell_other _ _ _ _ (by simp)]; exact c7, by rw [World.cell?_setCell_other _ _ _ _ (by simp)]; exact c8, by rw [World.cell?_setCell_other _ _ _ _ (by simp)]; exact c9⟩, by simpa using hf⟩
theorem box10_set6 {w : World} {B : Nat} {a0 a1 a2 a3 a4 a5 a6 a7 a8 a9 : Value} (h : Box10 w B a0 a1 a2 a3 a4 a5 a6 a7 a8 a9) (v : Value) : Box10 (w.setCell ⟨B, 6, none⟩ v) B a0 a1 a2 a3 a4 a5 v a7 a8 a9 := by
  obtain ⟨h0, ⟨c0, c1, c2, c3, c4, c5, c6, c7, c8, c9⟩, hf⟩ := h
  exact ⟨by simpa using h0, ⟨by rw [World.cell?_setCell_other _ _ _ _ (by simp)]; exact c0, by rw [World.cell?_setCell_other _ _ _ _ (by simp)]; exact c1, by rw [World.cell?_setCell_other _ _ _ _ (by simp)]; exact c2, by rw [World.cell?_setCell_other _ _ _ _ (by simp)]; exact c3, by rw [World.cell?_setCell_other _ _ _ _ (by simp)]; exact c4, by rw [World.cell?_setCell_other _ _ _ _ (by simp)]; exact c5, World.cell?_setCell_same _ _ _ c6, by rw [World.cell?_setCell_other _ _ _ _ (by simp)]; exact c7, by rw [World.cell?_setCell_other _ _ _ _ (by simp)]; exact c8, by rw [World.cell?_setCell_other _ _ _ _ (by simp)]; exact c9⟩, by simpa using hf⟩
theorem box10_set7 {w : World} {B : Nat} {a0 a1 a2 a3 a4 a5 a6 a7 a8 a9 : Value} (h : Box10 w B a0 a1 a2 a3 a4 a5 a6 a7 a8 a9) (v : Value) : Box10 (w.setCell ⟨B, 7, none⟩ v) B a0 a1 a2 a3 a4 a5 a6 v a8 a9 := by
  obtain ⟨h0, ⟨c0, c1, c2, c3, c4, c5, c6, c7, c8, c9⟩, hf⟩ := h
  exact ⟨by simpa using h0, ⟨by rw [World.cell?_setCell_other _ _ _ _ (by simp)]; exact c0, by rw [World.cell?_setCell_other _ _ _ _ (by simp)]; exact c1, by rw [World.cell?_setCell_other _ _ _ _ (by simp)]; exact c2, by rw [World.cell?_setCell_other _ _ _ _ (by simp)]; exact c3, by rw [World.cell?_setCell_other _ _ _ _ (by simp)]; exact c4, by rw [World.cell?_setCell_other _ _ _ _ (by simp)]; exact c5, by rw [World.cell?_setCell_other _ _ _ _ (by simp)]; exact c6, World.cell?_setCell_same _ _ _ c7, by rw [World.cell?_setCell_other _ _ _ _ (by simp)]; exact c8, by rw [World.cell?_setCell_other _ _ _ _ (by simp)]; exact c9⟩, by simpa using hf⟩
theorem box10_set8 {w : World} {B : Nat} {a0 a1 a2 a3 a4 a5 a6 a7 a8 a9 : Value} (h : Box10 w B a0 a1 a2 a3 a4 a5 a6 a7 a8 a9) (v : Value) : Box10 (w.setCell ⟨B, 8, none⟩ v) B a0 a1 a2 a3 a4 a5 a6 a7 v a9 := by
  obtain ⟨h0, ⟨c0, c1, c2, c3, c4, c5, c6, c7, c8, c9⟩, hf⟩ := h
  exact ⟨by simpa using h0, ⟨by rw [World.cell?_setCell_other _ _ _ _ (by simp)]; exact c0, by rw [World.cell?_setCell_other _ _ _ _ (by simp)]; exact c1, by rw [World.cell?_setCell_other _ _ _ _ (by simp)]; exact c2, by rw [World.cell?_setCell_other _ _ _ _ (by simp)]; exact c3, by rw [World.cell?_setCell_other _ _ _ _ (by simp)]; exact c4, by rw [World.cell?_setCell_other _ _ _ _ (by simp)]; exact c5, by rw [World.cell?_setCell_other _ _ _ _ (by simp)]; exact c6, by rw [World.cell?_setCell_other _ _ _ _ (by simp)]; exact c7, World.cell?_setCell_same _ _ _ c8, by rw [World.cell?_setCell_other _ _ _ _ (by simp)]; exact c9⟩, by simpa using hf⟩
theorem box10_set9 {w : World} {B : Nat} {a0 a1 a2 a3 a4 a5 a6 a7 a8 a9 : Value} (h : Box10 w B a0 a1 a2 a3 a4 a5 a6 a7 a8 a9) (v : Value) : Box10 (w.setCell ⟨B, 9, none⟩ v) B a0 a1 a2 a3 a4 a5 a6 a7 a8 v := by
  obtain ⟨h0, ⟨c0, c1, c2, c3, c4, c5, c6, c7, c8, c9⟩, hf⟩ := h
  exact ⟨by simpa using h0, ⟨by rw [World.cell?_setCell_other _ _ _ _ (by simp)]; exact c0, by rw [World.cell?_setCell_other _ _ _ _ (by simp)]; exact c1, by rw [World.cell?_setCell_other _ _ _ _ (by simp)]; exact c2, by rw [World.cell?_setCell_other _ _ _ _ (by simp)]; exact c3, by rw [World.cell?_setCell_other _ _ _ _ (by simp)]; exact c4, by rw [World.cell?_setCell_other _ _ _ _ (by simp)]; exact c5, by rw [World.cell?_setCell_other _ _ _ _ (by simp)]; exact c6, by rw [World.cell?_setCell_other _ _ _ _ (by simp)]; exact c7, by rw [World.cell?_setCell_other _ _ _ _ (by simp)]; exact c8, World.cell?_setCell_same _ _ _ c9⟩, by simpa using hf⟩

/-- an edge all of whose memory lies from B on -/
def NewEd (B : Nat) (e : Ed) (x : Value) (w : World) : Prop := ∃ a c a' c', x = .agg #[.int .i64 e.src, .int .i64 e.dst, .int .i64 e.guard.kind, .int .i64 e.guard.val, .slice a e.guard.kids.length c, .int .i64 e.var, .int .i64 e.val.kind, .int .i64 e.val.val, .slice a' e.val.kids.length c', .int .i64 e.sync] ∧
  i64 e.src ∧ i64 e.dst ∧ i64 e.var ∧ i64 e.sync ∧ NewTr B e.guard (.agg #[.int .i64 e.guard.kind, .int .i64 e.guard.val, .slice a e.guard.kids.length c]) w ∧ NewTr B e.val (.agg #[.int .i64 e.val.kind, .int .i64 e.val.val, .slice a' e.val.kids.length c']) w
theorem NewEd.any {B : Nat} {e : Ed} {x : Value} {w : World} (h : NewEd B e x w) : EdIn Any w e x := by
  obtain ⟨a, c, a', c', h0, h1, h2, h3, h4, h5, h6⟩ := h
  exact ⟨a, c, a', c', h0, h1, h2, h3, h4, h5.any, h6.any⟩
theorem NewEd.below {B : Nat} {e : Ed} {x : Value} {w w' : World} (h : NewEd B e x w) (hb : Below w.heap.size w w') : NewEd B e x w' := by
  obtain ⟨a, c, a', c', h0, h1, h2, h3, h4, h5, h6⟩ := h
  exact ⟨a, c, a', c', h0, h1, h2, h3, h4, h5.below hb, h6.below hb⟩
theorem NewEd.mono {B B' : Nat} {e : Ed} {x : Value} {w : World} (h : NewEd B e x w) (hB : B' ≤ B) : NewEd B' e x w := by
  obtain ⟨a, c, a', c', h0, h1, h2, h3, h4, h5, h6⟩ := h
  exact ⟨a, c, a', c', h0, h1, h2, h3, h4, h5.mono hB, h6.mono hB⟩

theorem below_set10 {B P : Nat} {w W : World} (h : Below B w W) (hP : B ≤ P) (u0 u1 u2 u3 u4 u5 u6 u7 u8 u9 : Value) : Below B w ((((((((((W.setCell ⟨P, 0, none⟩ u0).setCell ⟨P, 1, none⟩ u1).setCell ⟨P, 2, none⟩ u2).setCell ⟨P, 3, none⟩ u3).setCell ⟨P, 4, none⟩ u4).setCell ⟨P, 5, none⟩ u5).setCell ⟨P, 6, none⟩ u6).setCell ⟨P, 7, none⟩ u7).setCell ⟨P, 8, none⟩ u8).setCell ⟨P, 9, none⟩ u9) := ((((((((((h.setCell hP _).setCell hP _).setCell hP _).setCell hP _).setCell hP _).setCell hP _).setCell hP _).setCell hP _).setCell hP _).setCell hP _)
theorem keep_set10 {B P : Nat} {w W : World} (h : Keep B w W) (hP : P < B) (u0 u1 u2 u3 u4 u5 u6 u7 u8 u9 : Value) : Keep B w ((((((((((W.setCell ⟨P, 0, none⟩ u0).setCell ⟨P, 1, none⟩ u1).setCell ⟨P, 2, none⟩ u2).setCell ⟨P, 3, none⟩ u3).setCell ⟨P, 4, none⟩ u4).setCell ⟨P, 5, none⟩ u5).setCell ⟨P, 6, none⟩ u6).setCell ⟨P, 7, none⟩ u7).setCell ⟨P, 8, none⟩ u8).setCell ⟨P, 9, none⟩ u9) := ((((((((((h.trans (Keep.set _ hP _)).trans (Keep.set _ hP _)).trans (Keep.set _ hP _)).trans (Keep.set _ hP _)).trans (Keep.set _ hP _)).trans (Keep.set _ hP _)).trans (Keep.set _ hP _)).trans (Keep.set _ hP _)).trans (Keep.set _ hP _)).trans (Keep.set _ hP _))
theorem box10_fill {W : World} {P : Nat} {a0 a1 a2 a3 a4 a5 a6 a7 a8 a9 : Value} (h : Box10 W P a0 a1 a2 a3 a4 a5 a6 a7 a8 a9) (u0 u1 u2 u3 u4 u5 u6 u7 u8 u9 : Value) : Box10 ((((((((((W.setCell ⟨P, 0, none⟩ u0).setCell ⟨P, 1, none⟩ u1).setCell ⟨P, 2, none⟩ u2).setCell ⟨P, 3, none⟩ u3).setCell ⟨P, 4, none⟩ u4).setCell ⟨P, 5, none⟩ u5).setCell ⟨P, 6, none⟩ u6).setCell ⟨P, 7, none⟩ u7).setCell ⟨P, 8, none⟩ u8).setCell ⟨P, 9, none⟩ u9) P u0 u1 u2 u3 u4 u5 u6 u7 u8 u9 := (box10_set9 (box10_set8 (box10_set7 (box10_set6 (box10_set5 (box10_set4 (box10_set3 (box10_set2 (box10_set1 (box10_set0 h u0) u1) u2) u3) u4) u5) u6) u7) u8) u9)

end Go.Proofs.Ytfemikebklmlpaa
namespace Go.Proofs.Ytfemikebklmlpaa
open Go.RowKit

/-- a process -/
structure Pr where
  locs : Int
  edges : List Ed
/-- a system -/
structure Sy where
  init : List Int
  procs : List Pr

theorem EdIn.frame {p q : Nat → Prop} {w w' : World} {e : Ed} {x : Value} (h : EdIn p w e x) (hp : ∀ b, p b → b < w.heap.size → q b ∧ w'.heap[b]? = w.heap[b]?) : EdIn q w' e x := by
  obtain ⟨a, c, a', c', h0, h1, h2, h3, h4, h5, h6⟩ := h
  exact ⟨a, c, a', c', h0, h1, h2, h3, h4, (TrIn_frame hp).1 _ _ h5, (TrIn_frame hp).1 _ _ h6⟩
/-- an edge's ten cells at a place -/
def EdAt (p : Nat → Prop) (w : World) (e : Ed) (b o : Nat) : Prop := ∃ a c a' c',
  (w.cell? ⟨b, o, none⟩ = some (.int .i64 e.src) ∧ w.cell? ⟨b, o + 1, none⟩ = some (.int .i64 e.dst) ∧ w.cell? ⟨b, o + 2, none⟩ = some (.int .i64 e.guard.kind) ∧ w.cell? ⟨b, o + 3, none⟩ = some (.int .i64 e.guard.val) ∧
    w.cell? ⟨b, o + 4, none⟩ = some (.slice a e.guard.kids.length c) ∧ w.cell? ⟨b, o + 5, none⟩ = some (.int .i64 e.var) ∧ w.cell? ⟨b, o + 6, none⟩ = some (.int .i64 e.val.kind) ∧ w.cell? ⟨b, o + 7, none⟩ = some (.int .i64 e.val.val) ∧
    w.cell? ⟨b, o + 8, none⟩ = some (.slice a' e.val.kids.length c') ∧ w.cell? ⟨b, o + 9, none⟩ = some (.int .i64 e.sync)) ∧
  EdIn p w e (.agg #[.int .i64 e.src, .int .i64 e.dst, .int .i64 e.guard.kind, .int .i64 e.guard.val, .slice a e.guard.kids.length c, .int .i64 e.var, .int .i64 e.val.kind, .int .i64 e.val.val, .slice a' e.val.kids.length c', .int .i64 e.sync])
theorem EdAt.cells {p q : Nat → Prop} {w w' : World} {e : Ed} {b o : Nat} (h : EdAt p w e b o) (hc : ∀ i, i < 10 → w'.cell? ⟨b, o + i, none⟩ = w.cell? ⟨b, o + i, none⟩) (hp : ∀ b, p b → b < w.heap.size → q b ∧ w'.heap[b]? = w.heap[b]?) : EdAt q w' e b o := by
  obtain ⟨a, c, a', c', ⟨h0, h1, h2, h3, h4, h5, h6, h7, h8, h9⟩, hx⟩ := h
  exact ⟨a, c, a', c', ⟨(hc 0 (by omega)).trans h0, (hc 1 (by omega)).trans h1, (hc 2 (by omega)).trans h2, (hc 3 (by omega)).trans h3, (hc 4 (by omega)).trans h4, (hc 5 (by omega)).trans h5, (hc 6 (by omega)).trans h6, (hc 7 (by omega)).trans h7, (hc 8 (by omega)).trans h8, (hc 9 (by omega)).trans h9⟩, hx.frame hp⟩
theorem EdAt.frame {p q : Nat → Prop} {w w' : World} {e : Ed} {b o : Nat} (h : EdAt p w e b o) (he : w'.heap[b]? = w.heap[b]?) (hp : ∀ b, p b → b < w.heap.size → q b ∧ w'.heap[b]? = w.heap[b]?) : EdAt q w' e b o :=
  h.cells (fun i _ => World.cell?_of_block (w := w) (a := ⟨b, o + i, none⟩) he) hp
/-- rows of edges -/
def EdsIn (p : Nat → Prop) (w : World) (l : List Ed) (a : Option Addr) : Prop := SeqIn (EdAt p w) 10 p w l a
theorem EdsIn.frame {p q : Nat → Prop} {w w' : World} {l : List Ed} {a : Option Addr} (h : EdsIn p w l a) (hs : w.heap.size ≤ w'.heap.size) (hp : ∀ b, p b → b < w.heap.size → q b ∧ w'.heap[b]? = w.heap[b]?) : EdsIn q w' l a :=
  SeqIn.frame h hs (fun b h1 h2 => (hp b h1 h2).1) fun t b o _ h1 h2 h3 => h3.frame (hp b h1 h2).2 hp
theorem EdsIn.below {p : Nat → Prop} {w w' : World} {l : List Ed} {a : Option Addr} (h : EdsIn p w l a) (hb : Below w.heap.size w w') : EdsIn p w' l a := h.frame hb.size fun b hp hl => ⟨hp, hb.block b hl⟩

/-- a process in memory -/
def PrIn (p : Nat → Prop) (w : World) (q : Pr) (x : Value) : Prop := ∃ a c, x = .agg #[.int .i64 q.locs, .slice a q.edges.length c] ∧ i64 q.locs ∧ q.edges.length ≤ c ∧ c ≤ maxLen ∧ EdsIn p w q.edges a
theorem PrIn.frame {p q : Nat → Prop} {w w' : World} {t : Pr} {x : Value} (h : PrIn p w t x) (hs : w.heap.size ≤ w'.heap.size) (hp : ∀ b, p b → b < w.heap.size → q b ∧ w'.heap[b]? = w.heap[b]?) : PrIn q w' t x := by
  obtain ⟨a, c, h0, h1, h2, h3, h4⟩ := h
  exact ⟨a, c, h0, h1, h2, h3, h4.frame hs hp⟩
theorem PrIn.below {p : Nat → Prop} {w w' : World} {t : Pr} {x : Value} (h : PrIn p w t x) (hb : Below w.heap.size w w') : PrIn p w' t x := h.frame hb.size fun b hp hl => ⟨hp, hb.block b hl⟩
def PrAt (p : Nat → Prop) (w : World) (q : Pr) (b o : Nat) : Prop := ∃ a c, (w.cell? ⟨b, o, none⟩ = some (.int .i64 q.locs) ∧ w.cell? ⟨b, o + 1, none⟩ = some (.slice a q.edges.length c)) ∧ PrIn p w q (.agg #[.int .i64 q.locs, .slice a q.edges.length c])
theorem PrAt.cells {p q : Nat → Prop} {w w' : World} {t : Pr} {b o : Nat} (h : PrAt p w t b o) (hs : w.heap.size ≤ w'.heap.size) (hc : ∀ i, i < 2 → w'.cell? ⟨b, o + i, none⟩ = w.cell? ⟨b, o + i, none⟩) (hp : ∀ b, p b → b < w.heap.size → q b ∧ w'.heap[b]? = w.heap[b]?) : PrAt q w' t b o := by
  obtain ⟨a, c, ⟨h0, h1⟩, hx⟩ := h
  exact ⟨a, c, ⟨(hc 0 (by omega)).trans h0, (hc 1 (by omega)).trans h1⟩, hx.frame hs hp⟩
theorem PrAt.frame {p q : Nat → Prop} {w w' : World} {t : Pr} {b o : Nat} (h : PrAt p w t b o) (hs : w.heap.size ≤ w'.heap.size) (he : w'.heap[b]? = w.heap[b]?) (hp : ∀ b, p b → b < w.heap.size → q b ∧ w'.heap[b]? = w.heap[b]?) : PrAt q w' t b o :=
  h.cells hs (fun i _ => World.cell?_of_block (w := w) (a := ⟨b, o + i, none⟩) he) hp
def PrsIn (p : Nat → Prop) (w : World) (l : List Pr) (a : Option Addr) : Prop := SeqIn (PrAt p w) 2 p w l a
theorem PrsIn.frame {p q : Nat → Prop} {w w' : World} {l : List Pr} {a : Option Addr} (h : PrsIn p w l a) (hs : w.heap.size ≤ w'.heap.size) (hp : ∀ b, p b → b < w.heap.size → q b ∧ w'.heap[b]? = w.heap[b]?) : PrsIn q w' l a :=
  SeqIn.frame h hs (fun b h1 h2 => (hp b h1 h2).1) fun t b o _ h1 h2 h3 => h3.frame hs (hp b h1 h2).2 hp
theorem PrsIn.below {p : Nat → Prop} {w w' : World} {l : List Pr} {a : Option Addr} (h : PrsIn p w l a) (hb : Below w.heap.size w w') : PrsIn p w' l a := h.frame hb.size fun b hp hl => ⟨hp, hb.block b hl⟩

theorem IntsIn.frame {p q : Nat → Prop} {w w' : World} {a : Option Addr} {l : List Int} (h : IntsIn p w a l) (hs : w.heap.size ≤ w'.heap.size) (hp : ∀ b, p b → b < w.heap.size → q b ∧ w'.heap[b]? = w.heap[b]?) : IntsIn q w' a l := ⟨h.1.frame hs hp, h.2⟩
/-- A SYSTEM IN MEMORY -/
def SyIn (p : Nat → Prop) (w : World) (s : Sy) (x : Value) : Prop := ∃ a c b d, x = .agg #[.slice a s.init.length c, .slice b s.procs.length d] ∧ s.init.length ≤ c ∧ c ≤ maxLen ∧ IntsIn p w a s.init ∧ s.procs.length ≤ d ∧ d ≤ maxLen ∧ PrsIn p w s.procs b
theorem SyIn.frame {p q : Nat → Prop} {w w' : World} {s : Sy} {x : Value} (h : SyIn p w s x) (hs : w.heap.size ≤ w'.heap.size) (hp : ∀ b, p b → b < w.heap.size → q b ∧ w'.heap[b]? = w.heap[b]?) : SyIn q w' s x := by
  obtain ⟨a, c, b, d, h0, h1, h2, h3, h4, h5, h6⟩ := h
  exact ⟨a, c, b, d, h0, h1, h2, h3.frame hs hp, h4, h5, h6.frame hs hp⟩
theorem SyIn.below {p : Nat → Prop} {w w' : World} {s : Sy} {x : Value} (h : SyIn p w s x) (hb : Below w.heap.size w w') : SyIn p w' s x := h.frame hb.size fun b hp hl => ⟨hp, hb.block b hl⟩
theorem SyIn.any {p : Nat → Prop} {w : World} {s : Sy} {x : Value} (h : SyIn p w s x) : SyIn Any w s x := h.frame (Nat.le_refl _) fun _ _ _ => ⟨trivial, rfl⟩
theorem SyIn.shape {p : Nat → Prop} {w : World} {s : Sy} {x : Value} (h : SyIn p w s x) : ∃ a c b d, x = .agg #[.slice a s.init.length c, .slice b s.procs.length d] := by
  obtain ⟨a, c, b, d, h, _⟩ := h; exact ⟨a, c, b, d, h⟩
end Go.Proofs.Ytfemikebklmlpaa
namespace Go.Proofs.Ytfemikebklmlpaa
open Go.RowKit

/-- which operations may come up, one behind the other; 'fre', 'twf': of those that wait for all reads -/
inductive Ord where
  | done
  | one (i : Nat) (r : Ord)
  | fre (i : Nat) (r : Ord)
  | two (i j : Nat) (r s : Ord)
  | twf (i j : Nat) (r s : Ord)
  | thr (i j k : Nat) (r s t : Ord)

section
variable {P : Program} {ops : Array Oper} {Q : Exit → Act → World → Prop} {md : Region.Mode} {C : World → Prop} {Z : List Nat}

/-- whatever order is picked; C holds behind each operation but those of Z -/
def AnyZ (P : Program) (md : Region.Mode) (ops : Array Oper) (Q : Exit → Act → World → Prop) (C : World → Prop) (Z : List Nat) : Nat → Array Bool → Act → World → Prop
  | 0, listed, a, w => Region.ready md ops listed = [] ∧ Q .normal a w
  | n + 1, listed, a, w => (Region.ready md ops listed = [] → Q .normal a w) ∧ ∀ i, i ∈ Region.ready md ops listed →
      wpOp P ops Q i (fun a' w' => (Z.contains i = false → C w') ∧ AnyZ P md ops Q C Z n (listed.setIfInBounds i true) a' w') a w

theorem AnyZ.sound : ∀ (n : Nat) (listed : Array Bool) (a : Act) (w : World), AnyZ P md ops Q C Z n listed a w → wpAny P md ops Q n listed a w
  | 0, _, _, _, h => h
  | n + 1, _, _, _, h => ⟨h.1, fun i hi => wpOp_mono (fun a' w' h' => AnyZ.sound n _ a' w' h'.2) (h.2 i hi)⟩

/-- all operations of Z wait for operation i -/
def waitsZ (md : Region.Mode) (ops : Array Oper) (Z : List Nat) (i : Nat) : Bool := Z.all fun z => waits md ops z i

theorem AnyZ.take {i : Nat} {o : Oper} {v : Value} (hi : ops[i]? = some o) (hsel : Region.noSelect ops = true) (hQ : ∀ c a w, Q (.panic c) (a.put o.dst v) w → Q (.panic c) a w) (hz : waitsZ md ops Z i = true) :
    ∀ (n : Nat) (listed : Array Bool) (a : Act) (w : World),
      (∀ j oj, ops[j]? = some oj → j ≠ i → listed.getD j true = false → (∀ e ∈ oj.after, Region.binds md e = true → e.on ≠ i) → o.apart ops oj = true) →
      i ∈ Region.ready md ops listed → YieldsIf P ops C o v a → C w → AnyZ P md ops Q C Z n (listed.setIfInBounds i true) (a.put o.dst v) w → AnyZ P md ops Q C Z (n + 1) listed a w := by
  intro n
  induction n with
  | zero =>
    intro listed a w _ hr hy hC H
    refine ⟨fun h => by (rw [h] at hr; cases hr), fun j hj => ?_⟩
    by_cases e : j = i
    · subst e; exact hy.wpOp hi hC ⟨fun _ => hC, H⟩
    · have h1 := ready_mono hj e
      rw [H.1] at h1; cases h1
  | succ n ih =>
    intro listed a w hfree hr hy hC H
    refine ⟨fun h => by (rw [h] at hr; cases hr), fun j hj => ?_⟩
    by_cases e : j = i
    · subst e; exact hy.wpOp hi hC ⟨fun _ => hC, H⟩
    · have h1 := H.2 j (ready_mono hj e)
      obtain ⟨hun, oj, hoj, hall⟩ := mem_ready.1 hj
      have hno : ∀ x ∈ oj.after, Region.binds md x = true → x.on ≠ i := fun x hx hb he => by
        have h2 := hall x hx hb
        have h3 := (mem_ready.1 hr).1
        rw [he] at h2
        rcases Nat.lt_or_ge i listed.size with h4 | h4
        · simp [h4] at h2 h3; rw [h3] at h2; cases h2
        · simp [Array.getElem?_eq_none h4] at h2
      have hjz : Z.contains j = false := by
        cases hjz : Z.contains j with
        | false => rfl
        | true =>
          exfalso
          unfold waitsZ at hz
          rw [List.all_eq_true] at hz
          have hz := hz j (by simpa using hjz)
          unfold waits at hz
          rw [hoj] at hz
          simp only [Option.map_some, Option.getD_some, Array.any_eq_true] at hz
          obtain ⟨k, hk, hz⟩ := hz
          simp only [Bool.and_eq_true, beq_iff_eq] at hz
          exact hno _ (Array.getElem_mem hk) hz.1 hz.2
      have h5 := wpOp_putIf hoj (hfree j oj hoj e hun hno) (fun cs b => Region.noSelect_spec hsel i o cs b hi) (fun cs b => Region.noSelect_spec hsel j oj cs b hoj) hQ hy h1
      have hri := ready_mono (md := md) hr (Ne.symm e)
      refine wpOp_mono (fun a' w' h6 => ?_) h5
      have hCw : C w' := h6.2.1 hjz
      exact ⟨fun _ => hCw, ih (listed.setIfInBounds j true) a' w' (fun k ok hk hki hu hnk => hfree k ok hk hki (by
          by_cases hjk : j = k
          · subst hjk; exact hun
          · rw [getD_set_ne true hjk] at hu; exact hu) hnk) hri h6.1 hCw (by rw [Array.setIfInBounds_comm _ _ e]; exact h6.2.2)⟩

/-- an operation that only reads: a plain one, or 'len' -/
def lenOp (o : Oper) : Bool := match o.op with
  | .call { callee := .builtin .len, .. } => true
  | _ => false
theorem len_value {o : Oper} (h : lenOp o = true) {ρ : Operand → Value} {w w' : World} {n : Next} (hr : Sem.run P (execOp ρ o) w = .ok n w') : ∃ u, n = .value u := by
  obtain ⟨dst, op, ty, pos, after, guard⟩ := o
  unfold lenOp at h
  split at h
  · rename_i c1 c2 hop
    dsimp only at hop
    subst hop
    unfold execOp at hr
    simp only [resolve, invoke, builtin, Sem.run_bind, Sem.run_pure, Result.andThen_ok] at hr
    generalize Sem.run P (Builtin.len_ c2 ty (Array.map ρ c1)) w = rr at hr
    cases rr with
    | ok v w1 => simp [Result.andThen] at hr; exact ⟨v, hr.1.symm⟩
    | halt h w1 => simp [Result.andThen] at hr
  · cases h
theorem plain2_value {o : Oper} (h : (plainOp o || lenOp o) = true) {ρ : Operand → Value} {w w' : World} {n : Next} (hr : Sem.run P (execOp ρ o) w = .ok n w') : ∃ u, n = .value u := by
  rw [Bool.or_eq_true] at h
  rcases h with h | h
  · exact plain_value h hr
  · exact len_value h hr
/-- each of these may be taken first, one behind the other -/
def preZ (md : Region.Mode) (l : List Oper) (Z : List Nat) : List Nat → Array Bool → Bool
  | [], _ => true
  | i :: r, listed => (Region.ready md l.toArray listed).contains i && (Region.free md l.toArray listed i && (waitsZ md l.toArray Z i && (((l[i]?).map fun o => plainOp o || lenOp o).getD false && preZ md l Z r (listed.setIfInBounds i true))))
theorem AnyZ.pre {l : List Oper} {n : Nat} {w : World} (hsel : Region.noSelect l.toArray = true) (hQ : ∀ d v c a w, Q (.panic c) (Act.put a d v) w → Q (.panic c) a w) (hC : C w) :
    ∀ (I : List Nat) (listed : Array Bool) (a : Act), preZ md l Z I listed = true → wpQuiet P l.toArray C (fun a' => AnyZ P md l.toArray Q C Z n (marked I listed) a' w) (pick l I) a → AnyZ P md l.toArray Q C Z (n + I.length) listed a w := by
  intro I
  induction I with
  | nil => intro listed a _ h; exact h
  | cons i r ih =>
    intro listed a hB h
    simp only [preZ, Bool.and_eq_true] at hB
    obtain ⟨h1, h2, h3, h4, h5⟩ := hB
    cases ho : l[i]? with
    | none => rw [ho] at h4; simp at h4
    | some o =>
      rw [ho] at h4
      simp only [Option.map_some, Option.getD_some] at h4
      rw [pick_cons ho] at h
      have hoa : l.toArray[i]? = some o := by simpa using ho
      unfold wpQuiet at h
      have hgo : ∀ v, YieldsIf P l.toArray C o v a → wpQuiet P l.toArray C (fun a' => AnyZ P md l.toArray Q C Z n (marked r (listed.setIfInBounds i true)) a' w) (pick l r) (a.put o.dst v) → AnyZ P md l.toArray Q C Z (n + (i :: r).length) listed a w := fun v hy hr =>
        AnyZ.take hoa hsel (fun c a w => hQ _ _ c a w) h3 _ listed a w (Region.free_spec hoa h2) (by simpa using h1) hy hC (ih _ _ h5 hr)
      split at h
      · rename_i hw
        obtain ⟨v, hv, hr⟩ := h
        refine hgo v (.inl ⟨hw, fun w1 hw1 => ?_⟩) hr
        have hq := hv w1 hw1
        unfold Oper.quietAt at hq
        cases hrun : Sem.run P (execOp a.eval o) w1 with
        | ok nx w2 =>
          obtain ⟨u, rfl⟩ := plain2_value h4 hrun
          rw [hrun] at hq
          simp only [Oper.quietUpon] at hq
          rw [hq.1, hq.2]
        | halt hh w2 => rw [hrun] at hq; simp only [Oper.quietUpon] at hq
      · rename_i hw
        exact hgo undef (.inr ⟨by simpa using hw, rfl⟩) h


/-- these orders, and no others -/
def ordB (md : Region.Mode) (l : List Oper) (Z : List Nat) : Ord → Array Bool → Bool
  | .done, listed => (Region.ready md l.toArray listed).isEmpty
  | .one i r, listed => (Region.ready md l.toArray listed) == [i] && ((l[i]?).isSome && ordB md l Z r (listed.setIfInBounds i true))
  | .fre i r, listed => (Region.ready md l.toArray listed) == [i] && ((l[i]?).isSome && (Z.contains i && ordB md l Z r (listed.setIfInBounds i true)))
  | .two i j r s, listed => (Region.ready md l.toArray listed) == [i, j] && ((l[i]?).isSome && ((l[j]?).isSome && (ordB md l Z r (listed.setIfInBounds i true) && ordB md l Z s (listed.setIfInBounds j true))))
  | .twf i j r s, listed => (Region.ready md l.toArray listed) == [i, j] && ((l[i]?).isSome && ((l[j]?).isSome && (Z.contains i && (Z.contains j && (ordB md l Z r (listed.setIfInBounds i true) && ordB md l Z s (listed.setIfInBounds j true))))))
  | .thr i j k r s t, listed => (Region.ready md l.toArray listed) == [i, j, k] && ((l[i]?).isSome && ((l[j]?).isSome && ((l[k]?).isSome && (ordB md l Z r (listed.setIfInBounds i true) && (ordB md l Z s (listed.setIfInBounds j true) && ordB md l Z t (listed.setIfInBounds k true))))))
def Ord.len : Ord → Nat
  | .done => 0
  | .one _ r => r.len + 1
  | .fre _ r => r.len + 1
  | .two _ _ r _ => r.len + 1
  | .twf _ _ r _ => r.len + 1
  | .thr _ _ _ r _ _ => r.len + 1
/-- both ways are equally long -/
def Ord.even : Ord → Bool
  | .done => true
  | .one _ r => r.even
  | .fre _ r => r.even
  | .two _ _ r s => r.len == s.len && (r.even && s.even)
  | .twf _ _ r s => r.len == s.len && (r.even && s.even)
  | .thr _ _ _ r s t => r.len == s.len && (r.len == t.len && (r.even && (s.even && t.even)))

/-- each order, an operation at a time; C is shown behind each that does not wait for all reads -/
def ordW (P : Program) (ops : Array Oper) (Q : Exit → Act → World → Prop) (C : World → Prop) (l : List Oper) : Ord → Act → World → Prop
  | .done, a, w => Q .normal a w
  | .one i r, a, w => wpList P ops (Exit.then (fun a' w' => C w' ∧ ordW P ops Q C l r a' w') Q) (pick l [i]) a w
  | .fre i r, a, w => wpList P ops (Exit.then (fun a' w' => ordW P ops Q C l r a' w') Q) (pick l [i]) a w
  | .two i j r s, a, w => wpList P ops (Exit.then (fun a' w' => C w' ∧ ordW P ops Q C l r a' w') Q) (pick l [i]) a w ∧ wpList P ops (Exit.then (fun a' w' => C w' ∧ ordW P ops Q C l s a' w') Q) (pick l [j]) a w
  | .twf i j r s, a, w => wpList P ops (Exit.then (fun a' w' => ordW P ops Q C l r a' w') Q) (pick l [i]) a w ∧ wpList P ops (Exit.then (fun a' w' => ordW P ops Q C l s a' w') Q) (pick l [j]) a w
  | .thr i j k r s t, a, w => wpList P ops (Exit.then (fun a' w' => C w' ∧ ordW P ops Q C l r a' w') Q) (pick l [i]) a w ∧ wpList P ops (Exit.then (fun a' w' => C w' ∧ ordW P ops Q C l s a' w') Q) (pick l [j]) a w ∧ wpList P ops (Exit.then (fun a' w' => C w' ∧ ordW P ops Q C l t a' w') Q) (pick l [k]) a w

theorem pick_one {l : List Oper} {i : Nat} {o : Oper} (h : l[i]? = some o) : pick l [i] = [o] := by simp [pick, h]

theorem AnyZ.ord {l : List Oper} : ∀ (T : Ord) (listed : Array Bool) (a : Act) (w : World), ordB md l Z T listed = true → T.even = true → ordW P l.toArray Q C l T a w → AnyZ P md l.toArray Q C Z T.len listed a w := by
  intro T
  induction T with
  | done => intro listed a w h _ hw; exact ⟨List.isEmpty_iff.1 h, hw⟩
  | one i r ih =>
    intro listed a w hB he h
    simp only [ordB, Bool.and_eq_true, beq_iff_eq] at hB
    obtain ⟨h1, h2, h3⟩ := hB
    obtain ⟨o, ho⟩ := Option.isSome_iff_exists.1 h2
    have hoa : l.toArray[i]? = some o := by simpa using ho
    rw [ordW, pick_one ho] at h
    refine ⟨fun hn => by (rw [h1] at hn; cases hn), fun j hj => ?_⟩
    rw [h1] at hj
    obtain rfl : j = i := by simpa using hj
    exact wpOp_mono (fun a' w' hq => ⟨fun _ => hq.1, ih _ a' w' h3 he hq.2⟩) (op_then hoa h)
  | fre i r ih =>
    intro listed a w hB he h
    simp only [ordB, Bool.and_eq_true, beq_iff_eq] at hB
    obtain ⟨h1, h2, h4, h3⟩ := hB
    obtain ⟨o, ho⟩ := Option.isSome_iff_exists.1 h2
    have hoa : l.toArray[i]? = some o := by simpa using ho
    rw [ordW, pick_one ho] at h
    refine ⟨fun hn => by (rw [h1] at hn; cases hn), fun j hj => ?_⟩
    rw [h1] at hj
    obtain rfl : j = i := by simpa using hj
    exact wpOp_mono (fun a' w' hq => ⟨fun hc => (by rw [h4] at hc; cases hc), ih _ a' w' h3 he hq⟩) (op_then hoa h)
  | two i j r s ihr ihs =>
    intro listed a w hB he h
    simp only [ordB, Bool.and_eq_true, beq_iff_eq] at hB
    obtain ⟨h1, h2, h3, h4, h5⟩ := hB
    simp only [Ord.even, Bool.and_eq_true, beq_iff_eq] at he
    obtain ⟨e1, e2, e3⟩ := he
    obtain ⟨o, ho⟩ := Option.isSome_iff_exists.1 h2
    obtain ⟨o', ho'⟩ := Option.isSome_iff_exists.1 h3
    have hoa : l.toArray[i]? = some o := by simpa using ho
    have hoa' : l.toArray[j]? = some o' := by simpa using ho'
    rw [ordW, pick_one ho, pick_one ho'] at h
    refine ⟨fun hn => by (rw [h1] at hn; cases hn), fun k hk => ?_⟩
    rw [h1] at hk
    have hk2 : k = i ∨ k = j := by simpa using hk
    rcases hk2 with rfl | rfl
    · exact wpOp_mono (fun a' w' hq => ⟨fun _ => hq.1, ihr _ a' w' h4 e2 hq.2⟩) (op_then hoa h.1)
    · exact wpOp_mono (fun a' w' hq => ⟨fun _ => hq.1, by rw [e1]; exact ihs _ a' w' h5 e3 hq.2⟩) (op_then hoa' h.2)
  | twf i j r s ihr ihs =>
    intro listed a w hB he h
    simp only [ordB, Bool.and_eq_true, beq_iff_eq] at hB
    obtain ⟨h1, h2, h3, z1, z2, h4, h5⟩ := hB
    simp only [Ord.even, Bool.and_eq_true, beq_iff_eq] at he
    obtain ⟨e1, e2, e3⟩ := he
    obtain ⟨o, ho⟩ := Option.isSome_iff_exists.1 h2
    obtain ⟨o', ho'⟩ := Option.isSome_iff_exists.1 h3
    have hoa : l.toArray[i]? = some o := by simpa using ho
    have hoa' : l.toArray[j]? = some o' := by simpa using ho'
    rw [ordW, pick_one ho, pick_one ho'] at h
    refine ⟨fun hn => by (rw [h1] at hn; cases hn), fun k hk => ?_⟩
    rw [h1] at hk
    have hk2 : k = i ∨ k = j := by simpa using hk
    rcases hk2 with rfl | rfl
    · exact wpOp_mono (fun a' w' hq => ⟨fun hc => (by rw [z1] at hc; cases hc), ihr _ a' w' h4 e2 hq⟩) (op_then hoa h.1)
    · exact wpOp_mono (fun a' w' hq => ⟨fun hc => (by rw [z2] at hc; cases hc), by rw [e1]; exact ihs _ a' w' h5 e3 hq⟩) (op_then hoa' h.2)
  | thr i j k r s t ihr ihs iht =>
    intro listed a w hB he h
    simp only [ordB, Bool.and_eq_true, beq_iff_eq] at hB
    obtain ⟨h1, h2, h3, h3', h4, h5, h6⟩ := hB
    simp only [Ord.even, Bool.and_eq_true, beq_iff_eq] at he
    obtain ⟨e1, e1', e2, e3, e4⟩ := he
    obtain ⟨o, ho⟩ := Option.isSome_iff_exists.1 h2
    obtain ⟨o', ho'⟩ := Option.isSome_iff_exists.1 h3
    obtain ⟨o2, ho2⟩ := Option.isSome_iff_exists.1 h3'
    have hoa : l.toArray[i]? = some o := by simpa using ho
    have hoa' : l.toArray[j]? = some o' := by simpa using ho'
    have hoa2 : l.toArray[k]? = some o2 := by simpa using ho2
    rw [ordW, pick_one ho, pick_one ho', pick_one ho2] at h
    refine ⟨fun hn => by (rw [h1] at hn; cases hn), fun m hk => ?_⟩
    rw [h1] at hk
    have hk2 : m = i ∨ m = j ∨ m = k := by simpa using hk
    rcases hk2 with rfl | rfl | rfl
    · exact wpOp_mono (fun a' w' hq => ⟨fun _ => hq.1, ihr _ a' w' h4 e2 hq.2⟩) (op_then hoa h.1)
    · exact wpOp_mono (fun a' w' hq => ⟨fun _ => hq.1, by rw [e1]; exact ihs _ a' w' h5 e3 hq.2⟩) (op_then hoa' h.2.1)
    · exact wpOp_mono (fun a' w' hq => ⟨fun _ => hq.1, by rw [e1']; exact iht _ a' w' h6 e4 hq.2⟩) (op_then hoa2 h.2.2)

/-- **A REGION THAT DRAWS: ITS READS FIRST (I), THEN ONE OF A FEW ORDERS (T)**; Z: the operations that wait for all reads -/
theorem wp_region_ord {id : Nat} {a : Act} {w : World} {l : List Oper} (I : List Nat) (T : Ord) (Z : List Nat) (hm : P.follows .mixedOrders = true)
    (hB : (Region.noSelect l.toArray && (preZ .any l Z I (Array.replicate l.length false) && (ordB .any l Z T (marked I (Array.replicate l.length false)) && (T.even && decide (T.len + I.length = l.length))))) = true)
    (hQ : ∀ d v c a w, Q (.panic c) (Act.put a d v) w → Q (.panic c) a w) (hC : C w.drew)
    (h : wpQuiet P l.toArray C (fun a' => ordW P l.toArray Q C l T a' w.drew) (pick l I) a) : (Code.region id l.toArray true).wp P Q a w := by
  simp only [Bool.and_eq_true, decide_eq_true_eq] at hB
  obtain ⟨h1, h2, h3, h4, h5⟩ := hB
  refine wp_region_any hm (AnyZ.sound (C := C) (Z := Z) _ _ _ _ ?_)
  have := AnyZ.pre (n := T.len) h1 hQ hC I _ a h2 (wpQuiet_mono' (fun a' ha => AnyZ.ord T _ a' _ h3 h4 ha) _ _ h)
  rw [h5] at this
  simpa using this
end
end Go.Proofs.Ytfemikebklmlpaa
namespace Go.Proofs.Ytfemikebklmlpaa
open Go.RowKit

/-- a row of one's own, of numbers -/
theorem Row.ints {w : World} {R : Nat} {l : List Int} {p : Nat → Prop} (h : Row w R l.length (fun i => .int .i64 (l.getD i 0))) (hl : ∀ n, n ∈ l → i64 n) (hp : p R) : IntsIn p w (some ⟨R, 0, none⟩) l :=
  ⟨h.rowIn (l := l.map (Value.int .i64)) (by simp) (fun i v hv => by
    rw [List.getElem?_map] at hv
    cases hn : l[i]? with
    | none => rw [hn] at hv; simp at hv
    | some n => rw [hn] at hv; simp at hv; subst hv; simp [List.getD_eq_getElem?_getD, hn]) hp, hl⟩
theorem ints_info : (Try.prog.info? 3).map (fun i => (i.zero, i.size, i.bytes)) = some (some (.int .i64 0), 1, 8) := by kernel_rfl
def zerosI (n : Nat) : Array Value := madeCells #[.int .i64 0] n
theorem make_ints (n : Nat) (h : n ≤ 1048576) (w : World) : (Instr.makeSlice 30 (.int .i64 (n : Int)) (.int .i64 (n : Int))).run Try.prog w =
    .ok (.slice (some ⟨w.heap.size, 0, none⟩) n n) (w.alloc (.cells (zerosI n) 3)) := by
  obtain ⟨i, hi, hz, h1, h2⟩ := info_parts ints_info
  have := run_make (P := Try.prog) w 30 3 i _ Try.underlying30 hi hz .i64 .i64 n n (by omega) (by omega) (by rw [h2]; omega) (by omega)
  rw [this, h1]
  simp [zerosI, Value.cells]
theorem row_new {w : World} {cs : Array Value} {n : Nat} (hcs : cs.size = n) (e : TypeId) : Row (w.alloc (.cells cs e)) w.heap.size n (fun i => cs.getD i undef) :=
  ⟨by simp, fun i hi => by rw [World.cell?_alloc_new]; simp [Array.getD, hcs, hi], fun i => by simp⟩

theorem bools_info : (Try.prog.info? 4).map (fun i => (i.zero, i.size, i.bytes)) = some (some (.bool false), 1, 1) := by kernel_rfl
def zerosB (n : Nat) : Array Value := madeCells #[.bool false] n
theorem make_bools (n : Nat) (h : n ≤ 1048576) (w : World) : (Instr.makeSlice 27 (.int .i64 (n : Int)) (.int .i64 (n : Int))).run Try.prog w =
    .ok (.slice (some ⟨w.heap.size, 0, none⟩) n n) (w.alloc (.cells (zerosB n) 4)) := by
  obtain ⟨i, hi, hz, h1, h2⟩ := info_parts bools_info
  have := run_make (P := Try.prog) w 27 4 i _ Try.underlying27 hi hz .i64 .i64 n n (by omega) (by omega) (by rw [h2]; omega) (by omega)
  rw [this, h1]
  simp [zerosB, Value.cells]

end Go.Proofs.Ytfemikebklmlpaa
namespace Go.Proofs.Ytfemikebklmlpaa

/-- a language of trees: the kinds 1 to K, how many operands a kind has, how great its number may be, how many nodes a tree may have -/
structure Lang where
  K : Int
  ar : Int → Int
  most : Int → Int
  N : Int

namespace Lang
variable (L : Lang)

/-- a node that is well made by itself -/
def okB (k v : Int) (n : Nat) : Bool := decide (1 ≤ k ∧ k ≤ L.K) && (decide (0 ≤ v ∧ v ≤ L.most k) && decide ((n : Int) = L.ar k))

theorem okB_iff {k v : Int} {n : Nat} : L.okB k v n = true ↔ (1 ≤ k ∧ k ≤ L.K) ∧ (0 ≤ v ∧ v ≤ L.most k) ∧ (n : Int) = L.ar k := by
  simp only [okB, Bool.and_eq_true, decide_eq_true_eq]

theorem okB_no {k v : Int} {n : Nat} (h : ¬((1 ≤ k ∧ k ≤ L.K) ∧ (0 ≤ v ∧ v ≤ L.most k) ∧ (n : Int) = L.ar k)) : L.okB k v n = false := by
  rw [Bool.eq_false_iff, ne_eq, okB_iff]; exact h

mutual
/-- is every node well made, down to a depth -/
def shape : Tr → Int → Bool
  | .mk k v kids, d => decide (1 ≤ d) && (L.okB k v kids.length && shapeL kids (d - 1))
def shapeL : List Tr → Int → Bool
  | [], _ => true
  | t :: ts, d => shape t d && shapeL ts d
end
end Lang

mutual
/-- how many nodes a tree has -/
def nodes : Tr → Int
  | .mk _ _ kids => 1 + nodesL kids
def nodesL : List Tr → Int
  | [] => 0
  | t :: ts => nodes t + nodesL ts
end

mutual
theorem nodes_pos : ∀ t, 1 ≤ nodes t
  | .mk _ _ kids => by simp only [nodes]; have := nodesL_pos kids; omega
theorem nodesL_pos : ∀ l, 0 ≤ nodesL l
  | [] => by simp [nodesL]
  | t :: ts => by simp only [nodesL]; have := nodes_pos t; have := nodesL_pos ts; omega
end

namespace Lang
variable (L : Lang)

/-- a valid tree -/
def valid (t : Tr) : Bool := L.shape t 6 && decide (nodes t ≤ L.N)

mutual
/-- the walk that counts as it goes: whether all is well so far, and the count -/
def wk : Tr → Int → Int → Bool × Int
  | .mk k v kids, d, n => if 6 < d ∨ L.N < n + 1 ∨ L.okB k v kids.length = false then (false, n + 1) else wkL kids (d + 1) (n + 1)
def wkL : List Tr → Int → Int → Bool × Int
  | [], _, n => (true, n)
  | t :: ts, d, n => if (wk t d n).1 = true then wkL ts d (wk t d n).2 else (false, (wk t d n).2)
end

mutual
theorem wk_true : ∀ (t : Tr) (d n : Int), (L.wk t d n).1 = true ↔ (L.shape t (7 - d) = true ∧ n + nodes t ≤ L.N)
  | .mk k v kids, d, n => by
    simp only [wk, shape, nodes]
    have hp := nodesL_pos kids
    by_cases h1 : 6 < d
    · rw [if_pos (.inl h1)]; simp; omega
    by_cases h2 : L.N < n + 1
    · rw [if_pos (.inr (.inl h2))]; simp; omega
    cases h3 : L.okB k v kids.length with
    | false => rw [if_pos (.inr (.inr rfl))]; simp
    | true =>
      rw [if_neg (by simp [h1, h2]), wkL_true kids (d + 1) (n + 1) (by omega), show 7 - (d + 1) = 7 - d - 1 by omega]
      have : (1 : Int) ≤ 7 - d := by omega
      simp [this]
      omega
theorem wkL_true : ∀ (l : List Tr) (d n : Int), n ≤ L.N → ((L.wkL l d n).1 = true ↔ (L.shapeL l (7 - d) = true ∧ n + nodesL l ≤ L.N))
  | [], d, n, hn => by simp [wkL, shapeL, nodesL, hn]
  | t :: ts, d, n, hn => by
    simp only [wkL, shapeL, nodesL]
    have ht := wk_true t d n
    have hp := nodesL_pos ts
    by_cases h : (L.wk t d n).1 = true
    · rw [if_pos h]
      have h' := ht.1 h
      rw [wk_count t d n h, wkL_true ts d _ h'.2, Bool.and_eq_true]
      constructor
      · rintro ⟨a, b⟩; exact ⟨⟨h'.1, a⟩, by omega⟩
      · rintro ⟨⟨_, b⟩, c⟩; exact ⟨b, by omega⟩
    · rw [if_neg h]
      simp only [Bool.and_eq_true, Bool.false_eq_true, false_iff]
      rintro ⟨⟨a, _⟩, c⟩
      exact h (ht.2 ⟨a, by omega⟩)
theorem wk_count : ∀ (t : Tr) (d n : Int), (L.wk t d n).1 = true → (L.wk t d n).2 = n + nodes t
  | .mk k v kids, d, n, h => by
    simp only [wk, nodes] at h ⊢
    split at h
    · simp at h
    · rename_i hc
      rw [if_neg hc, wkL_count kids _ _ h]; omega
theorem wkL_count : ∀ (l : List Tr) (d n : Int), (L.wkL l d n).1 = true → (L.wkL l d n).2 = n + nodesL l
  | [], d, n, _ => by simp [wkL, nodesL]
  | t :: ts, d, n, h => by
    simp only [wkL, nodesL] at h ⊢
    split at h
    · rename_i hc
      rw [if_pos hc, wkL_count ts _ _ h, wk_count t d n hc]; omega
    · simp at h
end

mutual
theorem wk_bd : ∀ (t : Tr) (d n : Int), n ≤ L.N → n < (L.wk t d n).2 ∧ (L.wk t d n).2 ≤ L.N + 1 ∧ ((L.wk t d n).1 = true → (L.wk t d n).2 ≤ L.N)
  | .mk k v kids, d, n, hn => by
    simp only [wk]
    split
    · simp; omega
    · rename_i hc
      have := wkL_bd kids (d + 1) (n + 1) (by omega)
      refine ⟨by omega, by omega, this.2.2⟩
theorem wkL_bd : ∀ (l : List Tr) (d n : Int), n ≤ L.N → n ≤ (L.wkL l d n).2 ∧ (L.wkL l d n).2 ≤ L.N + 1 ∧ ((L.wkL l d n).1 = true → (L.wkL l d n).2 ≤ L.N)
  | [], d, n, hn => by simp only [wkL]; omega
  | t :: ts, d, n, hn => by
    simp only [wkL]
    have h1 := wk_bd t d n hn
    split
    · rename_i hc
      have h2 := wkL_bd ts d _ (h1.2.2 hc)
      refine ⟨by omega, h2.2.1, h2.2.2⟩
    · simp; omega
end

theorem wk_valid (t : Tr) : (L.wk t 1 0).1 = L.valid t := by
  rw [Bool.eq_iff_iff, wk_true, valid, Bool.and_eq_true, decide_eq_true_eq]
  simp

/-- how many nodes a valid tree has; 0 for others -/
def size (t : Tr) : Int := if L.valid t = true then nodes t else 0

theorem size_wk (t : Tr) : L.size t = if (L.wk t 1 0).1 = true then (L.wk t 1 0).2 else 0 := by
  rw [size, ← wk_valid]
  split
  · rename_i h; rw [wk_count L t 1 0 h]; omega
  · rfl

theorem valid_size (t : Tr) : L.valid t = decide (0 < L.size t) := by
  rw [size]
  cases h : L.valid t
  · simp
  · have := nodes_pos t
    simp; omega

theorem size_bd (t : Tr) (h : 0 ≤ L.N) : 0 ≤ L.size t ∧ L.size t ≤ L.N := by
  rw [size]
  split
  · rename_i hv
    have := nodes_pos t
    rw [valid, Bool.and_eq_true, decide_eq_true_eq] at hv
    omega
  · omega

end Lang

/-! ### the count down to a depth -/
mutual
def cnt : Tr → Int → Int
  | .mk _ _ kids, d => 1 + if 0 < d then cntL kids (d - 1) else 0
def cntL : List Tr → Int → Int
  | [], _ => 0
  | t :: ts, d => cnt t d + cntL ts d
end
mutual
theorem cnt_pos : ∀ (t : Tr) (d : Int), 1 ≤ cnt t d
  | .mk k v kids, d => by simp only [cnt]; split <;> (have := cntL_pos kids (d - 1); omega)
theorem cntL_pos : ∀ (l : List Tr) (d : Int), 0 ≤ cntL l d
  | [], d => by simp [cntL]
  | t :: ts, d => by simp only [cntL]; have := cnt_pos t d; have := cntL_pos ts d; omega
end
mutual
theorem cnt_le_nodes : ∀ (t : Tr) (d : Int), cnt t d ≤ nodes t
  | .mk k v kids, d => by simp only [cnt, nodes]; have := nodesL_pos kids; split <;> (have := cnt_le_nodesL kids (d - 1); omega)
theorem cnt_le_nodesL : ∀ (l : List Tr) (d : Int), cntL l d ≤ nodesL l
  | [], d => by simp [cntL, nodesL]
  | t :: ts, d => by simp only [cntL, nodesL]; have := cnt_le_nodes t d; have := cnt_le_nodesL ts d; omega
end
theorem nodes_mem {t : Tr} : ∀ {l : List Tr}, t ∈ l → nodes t ≤ nodesL l := by
  intro l
  induction l with
  | nil => intro h; cases h
  | cons u us ih =>
    intro h
    simp only [nodesL]
    have h1 := nodes_pos u
    have h2 := nodesL_pos us
    cases h with
    | head => omega
    | tail _ h => have := ih h; omega
namespace Lang
variable (L : Lang)
mutual
theorem cnt_shape : ∀ (t : Tr) (d : Int), L.shape t d = true → cnt t d = nodes t
  | .mk k v kids, d, h => by
    simp only [shape, Bool.and_eq_true, decide_eq_true_eq] at h
    simp only [cnt, nodes]
    rw [if_pos (by omega), cntL_shape kids (d - 1) h.2.2]
theorem cntL_shape : ∀ (l : List Tr) (d : Int), L.shapeL l d = true → cntL l d = nodesL l
  | [], d, _ => by simp [cntL, nodesL]
  | t :: ts, d, h => by
    simp only [shapeL, Bool.and_eq_true] at h
    simp only [cntL, nodesL]
    rw [cnt_shape t d h.1, cntL_shape ts d h.2]
end

/-- of a language whose nodes have at most two operands: how many nodes there can be -/
def cap : Nat → Int | 0 => 0 | n + 1 => 1 + 2 * cap n
theorem cap6 : cap 6 = 63 := by decide
theorem cap_pos : ∀ n, 0 ≤ cap n | 0 => by simp [cap] | n + 1 => by have := cap_pos n; simp only [cap]; omega
mutual
theorem nodes_cap (h2 : ∀ k, L.ar k ≤ 2) : ∀ (t : Tr) (d : Nat), L.shape t d = true → nodes t ≤ cap d
  | .mk k v kids, d, h => by
    simp only [shape, Bool.and_eq_true, decide_eq_true_eq, okB] at h
    obtain ⟨h1, ⟨_, _, hk⟩, hs⟩ := h
    have hk2 := h2 k
    cases d with
    | zero => omega
    | succ d =>
      simp only [nodes, cap]
      have := nodesL_cap h2 kids d (by rw [show ((d + 1 : Nat) : Int) - 1 = d by omega] at hs; exact hs)
      have hc := cap_pos d
      have : (kids.length : Int) * cap d ≤ 2 * cap d := Int.mul_le_mul_of_nonneg_right (by omega) hc
      omega
theorem nodesL_cap (h2 : ∀ k, L.ar k ≤ 2) : ∀ (l : List Tr) (d : Nat), L.shapeL l d = true → nodesL l ≤ l.length * cap d
  | [], d, _ => by simp [nodesL]
  | t :: ts, d, h => by
    simp only [shapeL, Bool.and_eq_true] at h
    have h3 := nodes_cap h2 t d h.1
    have h4 := nodesL_cap h2 ts d h.2
    simp only [nodesL, List.length_cons]
    have : ((ts.length + 1 : Nat) : Int) * cap d = ts.length * cap d + cap d := by rw [Int.natCast_add, Int.add_mul]; simp
    omega
end

/-- the reference's way to ask -/
theorem valid_cnt (t : Tr) : L.valid t = (L.shape t 6 && decide (cnt t 6 ≤ L.N)) := by
  rw [valid]
  cases h : L.shape t 6
  · simp
  · rw [cnt_shape L t 6 h]
end Lang

/-- expressions -/
def exprL : Lang where
  K := 9
  ar k := if k = 1 ∨ k = 2 then 0 else if k = 3 then 1 else 2
  most k := if k = 1 then 3 else if k = 2 then 2 else 0
  N := 15
theorem exprL_K : exprL.K = 9 := rfl
theorem exprL_N : exprL.N = 15 := rfl
theorem exprL_ar (k : Int) : exprL.ar k = if k = 1 ∨ k = 2 then 0 else if k = 3 then 1 else 2 := rfl
theorem exprL_most (k : Int) : exprL.most k = if k = 1 then 3 else if k = 2 then 2 else 0 := rfl
/-- formulas of linear temporal logic -/
def formL : Lang where
  K := 10
  ar k := if k = 1 ∨ k = 2 then 0 else if k = 4 ∨ k = 5 ∨ k = 7 ∨ k = 8 then 2 else 1
  most k := if k = 2 then 2 else 0
  N := 12
theorem formL_K : formL.K = 10 := rfl
theorem formL_N : formL.N = 12 := rfl
theorem formL_ar (k : Int) : formL.ar k = if k = 1 ∨ k = 2 then 0 else if k = 4 ∨ k = 5 ∨ k = 7 ∨ k = 8 then 2 else 1 := rfl
theorem formL_most (k : Int) : formL.most k = if k = 2 then 2 else 0 := rfl
/-- branching-time formulas -/
def branL : Lang where
  K := 11
  ar k := if k = 1 ∨ k = 2 then 0 else if k = 4 ∨ k = 5 ∨ k = 7 ∨ k = 10 then 2 else 1
  most k := if k = 2 then 2 else 0
  N := 12
theorem exprL_two (k : Int) : exprL.ar k ≤ 2 := by rw [exprL_ar]; split <;> (try split) <;> omega
theorem formL_two (k : Int) : formL.ar k ≤ 2 := by rw [formL_ar]; split <;> (try split) <;> omega
theorem branL_two (k : Int) : branL.ar k ≤ 2 := by unfold branL; simp only []; split <;> (try split) <;> omega
theorem branL_K : branL.K = 11 := rfl
theorem branL_N : branL.N = 12 := rfl
theorem branL_ar (k : Int) : branL.ar k = if k = 1 ∨ k = 2 then 0 else if k = 4 ∨ k = 5 ∨ k = 7 ∨ k = 10 then 2 else 1 := rfl
theorem branL_most (k : Int) : branL.most k = if k = 2 then 2 else 0 := rfl

end Go.Proofs.Ytfemikebklmlpaa
