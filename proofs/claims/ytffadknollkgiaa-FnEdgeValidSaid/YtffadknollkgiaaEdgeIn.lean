/- Edges in memory, and variables of ten cells. Conditions: none. -/
import Derived.Test.YtffadknollkgiaaTrPlain
import Derived.Test.YtffadknollkgiaaReg
import Derived.Test.YtffadknollkgiaaGrow
namespace Go.Proofs.Ytffadknollkgiaa
open Go.RowKit

/-- an edge -/
structure Ed where
  src : Int
  dst : Int
  guard : Tr
  var : Int
  val : Tr
  sync : Int
/-- the ten cells of an edge -/
def Ed.cells (e : Ed) (a : Option Addr) (c : Nat) (a' : Option Addr) (c' : Nat) : List Value :=
  [.int .i64 e.src, .int .i64 e.dst, .int .i64 e.guard.kind, .int .i64 e.guard.val, .slice a e.guard.kids.length c, .int .i64 e.var, .int .i64 e.val.kind, .int .i64 e.val.val, .slice a' e.val.kids.length c', .int .i64 e.sync]
/-- AN EDGE IN MEMORY -/
def EdIn (p : Nat → Prop) (w : World) (e : Ed) (x : Value) : Prop := ∃ a c a' c', x = .agg #[.int .i64 e.src, .int .i64 e.dst, .int .i64 e.guard.kind, .int .i64 e.guard.val, .slice a e.guard.kids.length c, .int .i64 e.var, .int .i64 e.val.kind, .int .i64 e.val.val, .slice a' e.val.kids.length c', .int .i64 e.sync] ∧
  i64 e.src ∧ i64 e.dst ∧ i64 e.var ∧ i64 e.sync ∧ TrIn p w e.guard (.agg #[.int .i64 e.guard.kind, .int .i64 e.guard.val, .slice a e.guard.kids.length c]) ∧ TrIn p w e.val (.agg #[.int .i64 e.val.kind, .int .i64 e.val.val, .slice a' e.val.kids.length c'])
theorem EdIn_below {p : Nat → Prop} {w w' : World} {e : Ed} {x : Value} (hb : Below w.heap.size w w') (h : EdIn p w e x) : EdIn p w' e x := by
  obtain ⟨a, c, a', c', h0, h1, h2, h3, h4, h5, h6⟩ := h
  exact ⟨a, c, a', c', h0, h1, h2, h3, h4, TrIn_below hb h5, TrIn_below hb h6⟩

/-! ### variables of ten cells -/
def Box10 (w : World) (B : Nat) (a0 a1 a2 a3 a4 a5 a6 a7 a8 a9 : Value) : Prop := B < w.heap.size ∧
  (w.cell? ⟨B, 0, none⟩ = some a0 ∧ w.cell? ⟨B, 1, none⟩ = some a1 ∧ w.cell? ⟨B, 2, none⟩ = some a2 ∧ w.cell? ⟨B, 3, none⟩ = some a3 ∧ w.cell? ⟨B, 4, none⟩ = some a4 ∧ w.cell? ⟨B, 5, none⟩ = some a5 ∧ w.cell? ⟨B, 6, none⟩ = some a6 ∧ w.cell? ⟨B, 7, none⟩ = some a7 ∧ w.cell? ⟨B, 8, none⟩ = some a8 ∧ w.cell? ⟨B, 9, none⟩ = some a9) ∧
  (w.frozen? ⟨B, 0, none⟩ = false ∧ w.frozen? ⟨B, 1, none⟩ = false ∧ w.frozen? ⟨B, 2, none⟩ = false ∧ w.frozen? ⟨B, 3, none⟩ = false ∧ w.frozen? ⟨B, 4, none⟩ = false ∧ w.frozen? ⟨B, 5, none⟩ = false ∧ w.frozen? ⟨B, 6, none⟩ = false ∧ w.frozen? ⟨B, 7, none⟩ = false ∧ w.frozen? ⟨B, 8, none⟩ = false ∧ w.frozen? ⟨B, 9, none⟩ = false)
theorem box10_block {w w' : World} {B : Nat} {a0 a1 a2 a3 a4 a5 a6 a7 a8 a9 : Value} (h : w'.heap[B]? = w.heap[B]?) (hs : w.heap.size ≤ w'.heap.size) (hb : Box10 w B a0 a1 a2 a3 a4 a5 a6 a7 a8 a9) : Box10 w' B a0 a1 a2 a3 a4 a5 a6 a7 a8 a9 := by
  obtain ⟨h0, hc, hf⟩ := hb
  have ec : ∀ i, w'.cell? ⟨B, i, none⟩ = w.cell? ⟨B, i, none⟩ := fun i => World.cell?_of_block (w := w) (a := ⟨B, i, none⟩) h
  have ef : ∀ i, w'.frozen? ⟨B, i, none⟩ = w.frozen? ⟨B, i, none⟩ := fun i => World.frozen?_of_block (w := w) (a := ⟨B, i, none⟩) h
  refine ⟨Nat.lt_of_lt_of_le h0 hs, ?_, ?_⟩
  · simp only [ec]; exact hc
  · simp only [ef]; exact hf
theorem box10_next {w w' : World} (h : Below w.heap.size w w') {B : Nat} {a0 a1 a2 a3 a4 a5 a6 a7 a8 a9 : Value} (hb : Box10 w B a0 a1 a2 a3 a4 a5 a6 a7 a8 a9) : Box10 w' B a0 a1 a2 a3 a4 a5 a6 a7 a8 a9 :=
  box10_block (h.block B hb.1) h.size hb
theorem box10_new (w : World) (a0 a1 a2 a3 a4 a5 a6 a7 a8 a9 : Value) (t : TypeId) : Box10 (w.alloc (.cells #[a0, a1, a2, a3, a4, a5, a6, a7, a8, a9] t)) w.heap.size a0 a1 a2 a3 a4 a5 a6 a7 a8 a9 :=
  ⟨by simp, by simp, by simp⟩
theorem box10_at {w : World} {B : Nat} (hB : B = w.heap.size) (a0 a1 a2 a3 a4 a5 a6 a7 a8 a9 : Value) (t : TypeId) : Box10 (w.alloc (.cells #[a0, a1, a2, a3, a4, a5, a6, a7, a8, a9] t)) B a0 a1 a2 a3 a4 a5 a6 a7 a8 a9 := by subst hB; exact box10_new ..

theorem box10_but {w w' : World} {D : Nat} (h : But w D w') {B : Nat} {a0 a1 a2 a3 a4 a5 a6 a7 a8 a9 : Value} (hd : B ≠ D) (hb : Box10 w B a0 a1 a2 a3 a4 a5 a6 a7 a8 a9) : Box10 w' B a0 a1 a2 a3 a4 a5 a6 a7 a8 a9 :=
  box10_block (h.block B hb.1 hd) h.size hb
theorem box10_set0 {w : World} {B : Nat} {a0 a1 a2 a3 a4 a5 a6 a7 a8 a9 : Value} (h : Box10 w B a0 a1 a2 a3 a4 a5 a6 a7 a8 a9) (v : Value) : Box10 (w.setCell ⟨B, 0, none⟩ v) B v a1 a2 a3 a4 a5 a6 a7 a8 a9 := by
  obtain ⟨h0, ⟨c0, c1, c2, c3, c4, c5, c6, c7, c8, c9⟩, hf⟩ := h
  exact ⟨by simpa using h0, ⟨World.cell?_setCell_same _ _ _ c0, by rw [World.cell?_setCell_other _ _ _ _ (by simp)]; exact c1, by rw [World.cell?_setCell_other _ _ _ _ (by simp)]; exact c2, by rw [World.cell?_setCell_other _ _ _ _ (by simp)]; exact c3, by rw [World.cell?_setCell_other _ _ _ _ (by simp)]; exact c4, by rw [World.cell?_setCell_other _ _ _ _ (by simp)]; exact c5, by rw [World.cell?_setCell_other _ _ _ _ (by simp)]; exact c6, by rw [World.cell?_setCell_other _ _ _ _ (by simp)]; exact c7, by rw [World.cell?_setCell_other _ _ _ _ (by simp)]; exact c8, by rw [World.cell?_setCell_other _ _ _ _ (by simp)]; exact c9⟩, by simpa using hf⟩
theorem box10_set1 {w : World} {B : Nat} {a0 a1 a2 a3 a4 a5 a6 a7 a8 a9 : Value} (h : Box10 w B a0 a1 a2 a3 a4 a5 a6 a7 a8 a9) (v : Value) : Box10 (w.setCell ⟨B, 1, none⟩ v) B a0 v a2 a3 a4 a5 a6 a7 a8 a9 := by
  obtain ⟨h0, ⟨c0, c1, c2, c3, c4, c5, c6, c7, c8, c9⟩, hf⟩ := h
  exact ⟨by simpa using h0, ⟨by rw [World.cell?_setCell_other _ _ _ _ (by simp)]; exact c0, World.cell?_setCell_same _ _ _ c1, by rw [World.cell?_setCell_other _ _ _ _ (by simp)]; exact c2, by rw [World.cell?_setCell_other _ _ _ _ (by simp)]; exact c3, by rw [World.cell?_setCell_other _ _ _ _ (by simp)]; exact c4, by rw [World.cell?_setCell_other _ _ _ _ (by simp)]; exact c5, by rw [World.cell?_setCell_other _ _ _ _ (by simp)]; exact c6, by rw [World.cell?_setCell_other _ _ _ _ (by simp)]; exact c7, by rw [World.cell?_setCell_other _ _ _ _ (by simp)]; exact c8, by rw [World.cell?_setCell_other _ _ _ _ (by simp)]; exact c9⟩, by simpa using hf⟩
theorem box10_set2 {w : World} {B : Nat} {a0 a1 a2 a3 a4 a5 a6 a7 a8 a9 : Value} (h : Box10 w B a0 a1 a2 a3 a4 a5 a6 a7 a8 a9) (v : Value) : Box10 (w.setCell ⟨B, 2, none⟩ v) B a0 a1 v a3 a4 a5 a6 a7 a8 a9 := by
  obtain ⟨h0, ⟨c0, c1, c2, c3, c4, c5, c6, c7, c8, c9⟩, hf⟩ := h
  exact ⟨by simpa using h0, ⟨by rw [World.cell?_setCell_other _ _ _ _ (by simp)]; exact c0, by rw [World.cell?_setCell_other _ _ _ _ (by simp)]; exact c1, World.cell?_setCell_same _ _ _ c2, by rw [World.cell?_setCell_other _ _ _ _ (by simp)]; exact c3, by rw [World.cell?_setCell_other _ _ _ _ (by simp)]; exact c4, by rw [World.cell?_setCell_other _ _ _ _ (by simp)]; exact c5, by rw [World.cell?_setCell_other _ _ _ _ (by simp)]; exact c6, by rw [World.cell?_setCell_other _ _ _ _ (by simp)]; exact c7, by rw [World.cell?_setCell_other _ _ _ _ (by simp)]; exact c8, by rw [World.cell?_setCell_other _ _ _ _ (by simp)]; exact c9⟩, by simpa using hf⟩
theorem box10_set3 {w : World} {B : Nat} {a0 a1 a2 a3 a4 a5 a6 a7 a8 a9 : Value} (h : Box10 w B a0 a1 a2 a3 a4 a5 a6 a7 a8 a9) (v : Value) : Box10 (w.setCell ⟨B, 3, none⟩ v) B a0 a1 a2 v a4 a5 a6 a7 a8 a9 := by
  obtain ⟨h0, ⟨c0, c1, c2, c3, c4, c5, c6, c7, c8, c9⟩, hf⟩ := h
  exact ⟨by simpa using h0, ⟨by rw [World.cell?_setCell_other _ _ _ _ (by simp)]; exact c0, by rw [World.cell?_setCell_other _ _ _ _ (by simp)]; exact c1, by rw [World.cell?_setCell_other _ _ _ _ (by simp)]; exact c2, World.cell?_setCell_same _ _ _ c3, by rw [World.cell?_setCell_other _ _ _ _ (by simp)]; exact c4, by rw [World.cell?_setCell_other _ _ _ _ (by simp)]; exact c5, by rw [World.cell?_setCell_other _ _ _ _ (by simp)]; exact c6, by rw [World.cell?_setCell_other _ _ _ _ (by simp)]; exact c7, by rw [World.cell?_setCell_other _ _ _ _ (by simp)]; exact c8, by rw [World.cell?_setCell_other _ _ _ _ (by simp)]; exact c9⟩, by simpa using hf⟩
theorem box10_set4 {w : World} {B : Nat} {a0 a1 a2 a3 a4 a5 a6 a7 a8 a9 : Value} (h : Box10 w B a0 a1 a2 a3 a4 a5 a6 a7 a8 a9) (v : Value) : Box10 (w.setCell ⟨B, 4, none⟩ v) B a0 a1 a2 a3 v a5 a6 a7 a8 a9 := by
  obtain ⟨h0, ⟨c0, c1, c2, c3, c4, c5, c6, c7, c8, c9⟩, hf⟩ := h
  exact ⟨by simpa using h0, ⟨by rw [World.cell?_setCell_other _ _ _ _ (by simp)]; exact c0, by rw [World.cell?_setCell_other _ _ _ _ (by simp)]; exact c1, by rw [World.cell?_setCell_other _ _ _ _ (by simp)]; exact c2, by rw [World.cell?_setCell_other _ _ _ _ (by simp)]; exact c3, World.cell?_setCell_same _ _ _ c4, by rw [World.cell?_setCell_other _ _ _ _ (by simp)]; exact c5, by rw [World.cell?_setCell_other _ _ _ _ (by simp)]; exact c6, by rw [World.cell?_setCell_other _ _ _ _ (by simp)]; exact c7, by rw [World.cell?_setCell_other _ _ _ _ (by simp)]; exact c8, by rw [World.cell?_setCell_other _ _ _ _ (by simp)]; exact c9⟩, by simpa using hf⟩
theorem box10_set5 {w : World} {B : Nat} {a0 a1 a2 a3 a4 a5 a6 a7 a8 a9 : Value} (h : Box10 w B a0 a1 a2 a3 a4 a5 a6 a7 a8 a9) (v : Value) : Box10 (w.setCell ⟨B, 5, none⟩ v) B a0 a1 a2 a3 a4 v a6 a7 a8 a9 := by
  obtain ⟨h0, ⟨c0, c1, c2, c3, c4, c5, c6, c7, c8, c9⟩, hf⟩ := h
  exact ⟨by simpa using h0, ⟨by rw [World.cell?_setCell_other _ _ _ _ (by simp)]; exact c0, by rw [World.cell?_setCell_other _ _ _ _ (by simp)]; exact c1, by rw [World.cell?_setCell_other _ _ _ _ (by simp)]; exact c2, by rw [World.cell?_setCell_other _ _ _ _ (by simp)]; exact c3, by rw [World.cell?_setCell_other _ _ _ _ (by simp)]; exact c4, World.cell?_setCell_same _ _ _ c5, by rw [World.cell?_setCell_other _ _ _ _ (by simp)]; exact c6, by rw [World.cell?_setCell_other _ _ _ _ (by simp)]; exact c7, by rw [World.cell?_setCell_other _ _ _ _ (by simp)]; exact c8, by rw [World.cell?_setCell_other _ _ _ _ (by simp)]; exact c9⟩, by simpa using hf⟩
theorem box10_set6 {w : World} {B : Nat} {a0 a1 a2 a3 a4 a5 a6 a7 a8 a9 : Value} (h : Box10 w B a0 a1 a2 a3 a4 a5 a6 a7 a8 a9) (v : Value) : Box10 (w.setCell ⟨B, 6, none⟩ v) B a0 a1 a2 a3 a4 a5 v a7 a8 a9 := by
  obtain ⟨h0, ⟨c0, c1, c2, c3, c4, c5, c6, c7, c8, c9⟩, hf⟩ := h
  exact ⟨by simpa using h0, ⟨by rw [World.cell?_setCell_other _ _ _ _ (by simp)]; exact c0, by rw [World.cell?_setCell_other _ _ _ _ (by simp)]; exact c1, by rw [World.cell?_setCell_other _ _ _ _ (by simp)]; exact c2, by rw [World.cell?_setCell_other _ _ _ _ (by simp)]; exact c3, by rw [World.cell?_setCell_other _ _ _ _ (by simp)]; exact c4, by rw [World.cell?_setCell_other _ _ _ _ (by simp)]; exact c5, World.cell?_setCell_same _ _ _ c6, by rw [World.cell?_setCell_other _ _ _ _ (by simp)]; exact c7, by rw [World.cell?_setCell_other _ _ _ _ (by simp)]; exact c8, by rw [World.cell?_setCell_other _ _ _ _ (by simp)]; exact c9⟩, by simpa using hf⟩
theorem box10_set7 {w : World} {B : Nat} {a0 a1 a2 a3 a4 a5 a6 a7 a8 a9 : Value} (h : Box10 w B a0 a1 a2 a3 a4 a5 a6 a7 a8 a9) (v : Value) : Box10 (w.setCell ⟨B, 7, none⟩ v) B a0 a1 a2 a3 a4 a5 a6 v a8 a9 := by
  obtain ⟨h0, ⟨c0, c1, c2, c3, c4, c5, c6, c7, c8, c9⟩, hf⟩ := h
  exact ⟨by simpa using h0, ⟨by rw [World.cell?_setCell_other _ _ _ _ (by simp)]; exact c0, by rw [World.cell?_setCell_other _ _ _ _ (by simp)]; exact c1, by rw [World.cell?_setCell_other _ _ _ _ (by simp)]; exact c2, by rw [World.cell?_setCell_other _ _ _ _ (by simp)]; exact c3, by rw [World.cell?_setCell_other _ _ _ _ (by simp)]; exact c4, by rw [World.cell?_setCell_other _ _ _ _ (by simp)]; exact c5, by rw [World.cell?_setCell_other _ _ _ _ (by simp)]; exact c6, World.cell?_setCell_same _ _ _ c7, by rw [World.cell?_setCell_other _ _ _ _ (by simp)]; exact c8, by rw [World.cell?_setCell_other _ _ _ _ (by simp)]; exact c9⟩, by simpa using hf⟩
theorem box10_set8 {w : World} {B : Nat} {a0 a1 a2 a3 a4 a5 a6 a7 a8 a9 : Value} (h : Box10 w B a0 a1 a2 a3 a4 a5 a6 a7 a8 a9) (v : Value) : Box10 (w.setCell ⟨B, 8, none⟩ v) B a0 a1 a2 a3 a4 a5 a6 a7 v a9 := by
  obtain ⟨h0, ⟨c0, c1, c2, c3, c4, c5, c6, c7, c8, c9⟩, hf⟩ := h
  exact ⟨by simpa using h0, ⟨by rw [World.cell?_setCell_other _ _ _ _ (by simp)]; exact c0, by rw [World.cell?_setCell_other _ _ _ _ (by simp)]; exact c1, by rw [World.cell?_setCell_other _ _ _ _ (by simp)]; exact c2, by rw [World.cell?_setCell_other _ _ _ _ (by simp)]; exact c3, by rw [World.cell?_setCell_other _ _ _ _ (by simp)]; exact c4, by rw [World.cell?_setCell_other _ _ _ _ (by simp)]; exact c5, by rw [World.cell?_setCell_other _ _ _ _ (by simp)]; exact c6, by rw [World.cell?_setCell_other _ _ _ _ (by simp)]; exact c7, World.cell?_setCell_same _ _ _ c8, by rw [World.cell?_setCell_other _ _ _ _ (by simp)]; exact c9⟩, by simpa using hf⟩
theorem box10_set9 {w : World} {B : Nat} {a0 a1 a2 a3 a4 a5 a6 a7 a8 a9 : Value} (h : Box10 w B a0 a1 a2 a3 a4 a5 a6 a7 a8 a9) (v : Value) : Box10 (w.setCell ⟨B, 9, none⟩ v) B a0 a1 a2 a3 a4 a5 a6 a7 a8 v := by
  obtain ⟨h0, ⟨c0, c1, c2, c3, c4, c5, c6, c7, c8, c9⟩, hf⟩ := h
  exact ⟨by simpa using h0, ⟨by rw [World.cell?_setCell_other _ _ _ _ (by simp)]; exact c0, by rw [World.cell?_setCell_other _ _ _ _ (by simp)]; exact c1, by rw [World.cell?_setCell_other _ _ _ _ (by simp)]; exact c2, by rw [World.cell?_setCell_other _ _ _ _ (by simp)]; exact c3, by rw [World.cell?_setCell_other _ _ _ _ (by simp)]; exact c4, by rw [World.cell?_setCell_other _ _ _ _ (by simp)]; exact c5, by rw [World.cell?_setCell_other _ _ _ _ (by simp)]; exact c6, by rw [World.cell?_setCell_other _ _ _ _ (by simp)]; exact c7, by rw [World.cell?_setCell_other _ _ _ _ (by simp)]; exact c8, World.cell?_setCell_same _ _ _ c9⟩, by simpa using hf⟩

/-- an edge all of whose memory lies from B on -/
def NewEd (B : Nat) (e : Ed) (x : Value) (w : World) : Prop := ∃ a c a' c', x = .agg #[.int .i64 e.src, .int .i64 e.dst, .int .i64 e.guard.kind, .int .i64 e.guard.val, .slice a e.guard.kids.length c, .int .i64 e.var, .int .i64 e.val.kind, .int .i64 e.val.val, .slice a' e.val.kids.length c', .int .i64 e.sync] ∧
  i64 e.src ∧ i64 e.dst ∧ i64 e.var ∧ i64 e.sync ∧ NewTr B e.guard (.agg #[.int .i64 e.guard.kind, .int .i64 e.guard.val, .slice a e.guard.kids.length c]) w ∧ NewTr B e.val (.agg #[.int .i64 e.val.kind, .int .i64 e.val.val, .slice a' e.val.kids.length c']) w
theorem NewEd.any {B : Nat} {e : Ed} {x : Value} {w : World} (h : NewEd B e x w) : EdIn Any w e x := by
  obtain ⟨a, c, a', c', h0, h1, h2, h3, h4, h5, h6⟩ := h
  exact ⟨a, c, a', c', h0, h1, h2, h3, h4, h5.any, h6.any⟩
theorem NewEd.below {B : Nat} {e : Ed} {x : Value} {w w' : World} (h : NewEd B e x w) (hb : Below w.heap.size w w') : NewEd B e x w' := by
  obtain ⟨a, c, a', c', h0, h1, h2, h3, h4, h5, h6⟩ := h
  exact ⟨a, c, a', c', h0, h1, h2, h3, h4, h5.below hb, h6.below hb⟩
theorem NewEd.mono {B B' : Nat} {e : Ed} {x : Value} {w : World} (h : NewEd B e x w) (hB : B' ≤ B) : NewEd B' e x w := by
  obtain ⟨a, c, a', c', h0, h1, h2, h3, h4, h5, h6⟩ := h
  exact ⟨a, c, a', c', h0, h1, h2, h3, h4, h5.mono hB, h6.mono hB⟩

theorem below_set10 {B P : Nat} {w W : World} (h : Below B w W) (hP : B ≤ P) (u0 u1 u2 u3 u4 u5 u6 u7 u8 u9 : Value) : Below B w ((((((((((W.setCell ⟨P, 0, none⟩ u0).setCell ⟨P, 1, none⟩ u1).setCell ⟨P, 2, none⟩ u2).setCell ⟨P, 3, none⟩ u3).setCell ⟨P, 4, none⟩ u4).setCell ⟨P, 5, none⟩ u5).setCell ⟨P, 6, none⟩ u6).setCell ⟨P, 7, none⟩ u7).setCell ⟨P, 8, none⟩ u8).setCell ⟨P, 9, none⟩ u9) := ((((((((((h.setCell hP _).setCell hP _).setCell hP _).setCell hP _).setCell hP _).setCell hP _).setCell hP _).setCell hP _).setCell hP _).setCell hP _)
theorem keep_set10 {B P : Nat} {w W : World} (h : Keep B w W) (hP : P < B) (u0 u1 u2 u3 u4 u5 u6 u7 u8 u9 : Value) : Keep B w ((((((((((W.setCell ⟨P, 0, none⟩ u0).setCell ⟨P, 1, none⟩ u1).setCell ⟨P, 2, none⟩ u2).setCell ⟨P, 3, none⟩ u3).setCell ⟨P, 4, none⟩ u4).setCell ⟨P, 5, none⟩ u5).setCell ⟨P, 6, none⟩ u6).setCell ⟨P, 7, none⟩ u7).setCell ⟨P, 8, none⟩ u8).setCell ⟨P, 9, none⟩ u9) := ((((((((((h.trans (Keep.set _ hP _)).trans (Keep.set _ hP _)).trans (Keep.set _ hP _)).trans (Keep.set _ hP _)).trans (Keep.set _ hP _)).trans (Keep.set _ hP _)).trans (Keep.set _ hP _)).trans (Keep.set _ hP _)).trans (Keep.set _ hP _)).trans (Keep.set _ hP _))
theorem box10_fill {W : World} {P : Nat} {a0 a1 a2 a3 a4 a5 a6 a7 a8 a9 : Value} (h : Box10 W P a0 a1 a2 a3 a4 a5 a6 a7 a8 a9) (u0 u1 u2 u3 u4 u5 u6 u7 u8 u9 : Value) : Box10 ((((((((((W.setCell ⟨P, 0, none⟩ u0).setCell ⟨P, 1, none⟩ u1).setCell ⟨P, 2, none⟩ u2).setCell ⟨P, 3, none⟩ u3).setCell ⟨P, 4, none⟩ u4).setCell ⟨P, 5, none⟩ u5).setCell ⟨P, 6, none⟩ u6).setCell ⟨P, 7, none⟩ u7).setCell ⟨P, 8, none⟩ u8).setCell ⟨P, 9, none⟩ u9) P u0 u1 u2 u3 u4 u5 u6 u7 u8 u9 := (box10_set9 (box10_set8 (box10_set7 (box10_set6 (box10_set5 (box10_set4 (box10_set3 (box10_set2 (box10_set1 (box10_set0 h u0) u1) u2) u3) u4) u5) u6) u7) u8) u9)

end Go.Proofs.Ytffadknollkgiaa
