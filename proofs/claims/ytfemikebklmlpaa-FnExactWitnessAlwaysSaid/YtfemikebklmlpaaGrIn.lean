/- Graphs in memory: rows of states, rows of rows of numbers, graphs. Conditions: none. -/
import Derived.Test.YtfemikebklmlpaaSeqIn
namespace Go.Proofs.Ytfemikebklmlpaa
open Go.RowKit
set_option linter.unusedVariables false

theorem ints_frame {p q : Nat → Prop} {w w' : World} {a : Option Addr} {l : List Int} (h : IntsIn p w a l) (hs : w.heap.size ≤ w'.heap.size) (hp : ∀ b, p b → b < w.heap.size → q b ∧ w'.heap[b]? = w.heap[b]?) : IntsIn q w' a l := ⟨h.1.frame hs hp, h.2⟩
namespace Gr
/-- a state -/
structure S2 where
  locs : List Int
  vals : List Int
/-- a graph -/
structure G2 where
  states : List S2
  next : List (List Int)

/-- a slice of numbers as a value -/
def RIn (p : Nat → Prop) (w : World) (t : List Int) (x : Value) : Prop := ∃ a c, x = .slice a t.length c ∧ t.length ≤ c ∧ c ≤ maxLen ∧ IntsIn p w a t
theorem RIn.frame {p q : Nat → Prop} {w w' : World} {t : List Int} {x : Value} (h : RIn p w t x) (hs : w.heap.size ≤ w'.heap.size) (hp : ∀ b, p b → b < w.heap.size → q b ∧ w'.heap[b]? = w.heap[b]?) : RIn q w' t x := by
  obtain ⟨a, c, h0, h1, h2, h3⟩ := h
  exact ⟨a, c, h0, h1, h2, ints_frame h3 hs hp⟩
theorem RIn.below {p : Nat → Prop} {w w' : World} {t : List Int} {x : Value} (h : RIn p w t x) (hb : Below w.heap.size w w') : RIn p w' t x := h.frame hb.size fun b hp hl => ⟨hp, hb.block b hl⟩
/-- a state's two cells at a place -/
def StAt (p : Nat → Prop) (w : World) (t : S2) (b o : Nat) : Prop := ∃ a c a' c', (w.cell? ⟨b, o, none⟩ = some (.slice a t.locs.length c) ∧ w.cell? ⟨b, o + 1, none⟩ = some (.slice a' t.vals.length c')) ∧ RIn p w t.locs (.slice a t.locs.length c) ∧ RIn p w t.vals (.slice a' t.vals.length c')
theorem StAt.cells {p q : Nat → Prop} {w w' : World} {t : S2} {b o : Nat} (h : StAt p w t b o) (hs : w.heap.size ≤ w'.heap.size) (hc : ∀ i, i < 2 → w'.cell? ⟨b, o + i, none⟩ = w.cell? ⟨b, o + i, none⟩) (hp : ∀ b, p b → b < w.heap.size → q b ∧ w'.heap[b]? = w.heap[b]?) : StAt q w' t b o := by
  obtain ⟨a, c, a', c', ⟨h0, h1⟩, h2, h3⟩ := h
  exact ⟨a, c, a', c', ⟨(hc 0 (by omega)).trans h0, (hc 1 (by omega)).trans h1⟩, h2.frame hs hp, h3.frame hs hp⟩
theorem StAt.frame {p q : Nat → Prop} {w w' : World} {t : S2} {b o : Nat} (h : StAt p w t b o) (hs : w.heap.size ≤ w'.heap.size) (he : w'.heap[b]? = w.heap[b]?) (hp : ∀ b, p b → b < w.heap.size → q b ∧ w'.heap[b]? = w.heap[b]?) : StAt q w' t b o :=
  h.cells hs (fun i _ => World.cell?_of_block (w := w) (a := ⟨b, o + i, none⟩) he) hp
def StsIn (p : Nat → Prop) (w : World) (l : List S2) (a : Option Addr) : Prop := SeqIn (StAt p w) 2 p w l a
theorem StsIn.frame {p q : Nat → Prop} {w w' : World} {l : List S2} {a : Option Addr} (h : StsIn p w l a) (hs : w.heap.size ≤ w'.heap.size) (hp : ∀ b, p b → b < w.heap.size → q b ∧ w'.heap[b]? = w.heap[b]?) : StsIn q w' l a :=
  SeqIn.frame h hs (fun b h1 h2 => (hp b h1 h2).1) fun t b o _ h1 h2 h3 => h3.frame hs (hp b h1 h2).2 hp
theorem StsIn.below {p : Nat → Prop} {w w' : World} {l : List S2} {a : Option Addr} (h : StsIn p w l a) (hb : Below w.heap.size w w') : StsIn p w' l a := h.frame hb.size fun b hp hl => ⟨hp, hb.block b hl⟩
/-- a row's cell at a place -/
def RoAt (p : Nat → Prop) (w : World) (t : List Int) (b o : Nat) : Prop := ∃ a c, w.cell? ⟨b, o, none⟩ = some (.slice a t.length c) ∧ RIn p w t (.slice a t.length c)
theorem RoAt.cells {p q : Nat → Prop} {w w' : World} {t : List Int} {b o : Nat} (h : RoAt p w t b o) (hs : w.heap.size ≤ w'.heap.size) (hc : w'.cell? ⟨b, o, none⟩ = w.cell? ⟨b, o, none⟩) (hp : ∀ b, p b → b < w.heap.size → q b ∧ w'.heap[b]? = w.heap[b]?) : RoAt q w' t b o := by
  obtain ⟨a, c, h0, h2⟩ := h
  exact ⟨a, c, hc.trans h0, h2.frame hs hp⟩
theorem RoAt.frame {p q : Nat → Prop} {w w' : World} {t : List Int} {b o : Nat} (h : RoAt p w t b o) (hs : w.heap.size ≤ w'.heap.size) (he : w'.heap[b]? = w.heap[b]?) (hp : ∀ b, p b → b < w.heap.size → q b ∧ w'.heap[b]? = w.heap[b]?) : RoAt q w' t b o :=
  h.cells hs (World.cell?_of_block (w := w) (a := ⟨b, o, none⟩) he) hp
def RowsIn (p : Nat → Prop) (w : World) (l : List (List Int)) (a : Option Addr) : Prop := SeqIn (RoAt p w) 1 p w l a
theorem RowsIn.frame {p q : Nat → Prop} {w w' : World} {l : List (List Int)} {a : Option Addr} (h : RowsIn p w l a) (hs : w.heap.size ≤ w'.heap.size) (hp : ∀ b, p b → b < w.heap.size → q b ∧ w'.heap[b]? = w.heap[b]?) : RowsIn q w' l a :=
  SeqIn.frame h hs (fun b h1 h2 => (hp b h1 h2).1) fun t b o _ h1 h2 h3 => h3.frame hs (hp b h1 h2).2 hp
theorem RowsIn.below {p : Nat → Prop} {w w' : World} {l : List (List Int)} {a : Option Addr} (h : RowsIn p w l a) (hb : Below w.heap.size w w') : RowsIn p w' l a := h.frame hb.size fun b hp hl => ⟨hp, hb.block b hl⟩
/-- A GRAPH IN MEMORY -/
def GrIn (p : Nat → Prop) (w : World) (g : G2) (x : Value) : Prop := ∃ a c b d, x = .agg #[.slice a g.states.length c, .slice b g.next.length d] ∧ g.states.length ≤ c ∧ c ≤ maxLen ∧ StsIn p w g.states a ∧ g.next.length ≤ d ∧ d ≤ maxLen ∧ RowsIn p w g.next b
theorem GrIn.frame {p q : Nat → Prop} {w w' : World} {g : G2} {x : Value} (h : GrIn p w g x) (hs : w.heap.size ≤ w'.heap.size) (hp : ∀ b, p b → b < w.heap.size → q b ∧ w'.heap[b]? = w.heap[b]?) : GrIn q w' g x := by
  obtain ⟨a, c, b, d, h0, h1, h2, h3, h4, h5, h6⟩ := h
  exact ⟨a, c, b, d, h0, h1, h2, h3.frame hs hp, h4, h5, h6.frame hs hp⟩
theorem GrIn.below {p : Nat → Prop} {w w' : World} {g : G2} {x : Value} (h : GrIn p w g x) (hb : Below w.heap.size w w') : GrIn p w' g x := h.frame hb.size fun b hp hl => ⟨hp, hb.block b hl⟩
theorem GrIn.any {p : Nat → Prop} {w : World} {g : G2} {x : Value} (h : GrIn p w g x) : GrIn Any w g x := h.frame (Nat.le_refl _) fun _ _ _ => ⟨trivial, rfl⟩
theorem GrIn.shape {p : Nat → Prop} {w : World} {g : G2} {x : Value} (h : GrIn p w g x) : ∃ a c b d, x = .agg #[.slice a g.states.length c, .slice b g.next.length d] := by
  obtain ⟨a, c, b, d, h, _⟩ := h; exact ⟨a, c, b, d, h⟩
theorem sts_at {p : Nat → Prop} {w : World} {l : List S2} {a : Option Addr} {k : Nat} (h : StsIn p w l a) (hk : k < l.length) :
    ∃ b o a1 c1 a2 c2, a = some ⟨b, o, none⟩ ∧ b < w.heap.size ∧ p b ∧ w.cell? ⟨b, o + k * 2, none⟩ = some (.slice a1 l[k].locs.length c1) ∧ w.cell? ⟨b, o + k * 2 + 1, none⟩ = some (.slice a2 l[k].vals.length c2) ∧ RIn p w l[k].locs (.slice a1 l[k].locs.length c1) ∧ RIn p w l[k].vals (.slice a2 l[k].vals.length c2) := by
  obtain ⟨b, o, h1, h2, h3, a1, c1, a2, c2, ⟨g0, g1⟩, g2, g3⟩ := SeqIn.at h hk
  exact ⟨b, o, a1, c1, a2, c2, h1, h3, h2, g0, g1, g2, g3⟩
theorem rows_at {p : Nat → Prop} {w : World} {l : List (List Int)} {a : Option Addr} {k : Nat} (h : RowsIn p w l a) (hk : k < l.length) :
    ∃ b o a1 c1, a = some ⟨b, o, none⟩ ∧ b < w.heap.size ∧ p b ∧ w.cell? ⟨b, o + k, none⟩ = some (.slice a1 l[k].length c1) ∧ l[k].length ≤ c1 ∧ c1 ≤ maxLen ∧ IntsIn p w a1 l[k] := by
  obtain ⟨b, o, h1, h2, h3, a1, c1, g0, a2, c2, e, g1, g2, g3⟩ := SeqIn.at h hk
  simp at e
  obtain ⟨rfl, rfl⟩ := e
  rw [Nat.mul_one] at g0
  exact ⟨b, o, a1, c1, h1, h3, h2, g0, g1, g2, g3⟩
end Gr
end Go.Proofs.Ytfemikebklmlpaa
