/- Systems in memory: rows of edges, rows of processes, systems. Conditions: none. -/
import Derived.Test.YtffadknollkgiaaEdgeIn
import Derived.Test.YtffadknollkgiaaSeqIn
namespace Go.Proofs.Ytffadknollkgiaa
open Go.RowKit

/-- a process -/
structure Pr where
  locs : Int
  edges : List Ed
/-- a system -/
structure Sy where
  init : List Int
  procs : List Pr

theorem EdIn.frame {p q : Nat → Prop} {w w' : World} {e : Ed} {x : Value} (h : EdIn p w e x) (hp : ∀ b, p b → b < w.heap.size → q b ∧ w'.heap[b]? = w.heap[b]?) : EdIn q w' e x := by
  obtain ⟨a, c, a', c', h0, h1, h2, h3, h4, h5, h6⟩ := h
  exact ⟨a, c, a', c', h0, h1, h2, h3, h4, (TrIn_frame hp).1 _ _ h5, (TrIn_frame hp).1 _ _ h6⟩
/-- an edge's ten cells at a place -/
def EdAt (p : Nat → Prop) (w : World) (e : Ed) (b o : Nat) : Prop := ∃ a c a' c',
  (w.cell? ⟨b, o, none⟩ = some (.int .i64 e.src) ∧ w.cell? ⟨b, o + 1, none⟩ = some (.int .i64 e.dst) ∧ w.cell? ⟨b, o + 2, none⟩ = some (.int .i64 e.guard.kind) ∧ w.cell? ⟨b, o + 3, none⟩ = some (.int .i64 e.guard.val) ∧
    w.cell? ⟨b, o + 4, none⟩ = some (.slice a e.guard.kids.length c) ∧ w.cell? ⟨b, o + 5, none⟩ = some (.int .i64 e.var) ∧ w.cell? ⟨b, o + 6, none⟩ = some (.int .i64 e.val.kind) ∧ w.cell? ⟨b, o + 7, none⟩ = some (.int .i64 e.val.val) ∧
    w.cell? ⟨b, o + 8, none⟩ = some (.slice a' e.val.kids.length c') ∧ w.cell? ⟨b, o + 9, none⟩ = some (.int .i64 e.sync)) ∧
  EdIn p w e (.agg #[.int .i64 e.src, .int .i64 e.dst, .int .i64 e.guard.kind, .int .i64 e.guard.val, .slice a e.guard.kids.length c, .int .i64 e.var, .int .i64 e.val.kind, .int .i64 e.val.val, .slice a' e.val.kids.length c', .int .i64 e.sync])
theorem EdAt.cells {p q : Nat → Prop} {w w' : World} {e : Ed} {b o : Nat} (h : EdAt p w e b o) (hc : ∀ i, i < 10 → w'.cell? ⟨b, o + i, none⟩ = w.cell? ⟨b, o + i, none⟩) (hp : ∀ b, p b → b < w.heap.size → q b ∧ w'.heap[b]? = w.heap[b]?) : EdAt q w' e b o := by
  obtain ⟨a, c, a', c', ⟨h0, h1, h2, h3, h4, h5, h6, h7, h8, h9⟩, hx⟩ := h
  exact ⟨a, c, a', c', ⟨(hc 0 (by omega)).trans h0, (hc 1 (by omega)).trans h1, (hc 2 (by omega)).trans h2, (hc 3 (by omega)).trans h3, (hc 4 (by omega)).trans h4, (hc 5 (by omega)).trans h5, (hc 6 (by omega)).trans h6, (hc 7 (by omega)).trans h7, (hc 8 (by omega)).trans h8, (hc 9 (by omega)).trans h9⟩, hx.frame hp⟩
theorem EdAt.frame {p q : Nat → Prop} {w w' : World} {e : Ed} {b o : Nat} (h : EdAt p w e b o) (he : w'.heap[b]? = w.heap[b]?) (hp : ∀ b, p b → b < w.heap.size → q b ∧ w'.heap[b]? = w.heap[b]?) : EdAt q w' e b o :=
  h.cells (fun i _ => World.cell?_of_block (w := w) (a := ⟨b, o + i, none⟩) he) hp
/-- rows of edges -/
def EdsIn (p : Nat → Prop) (w : World) (l : List Ed) (a : Option Addr) : Prop := SeqIn (EdAt p w) 10 p w l a
theorem EdsIn.frame {p q : Nat → Prop} {w w' : World} {l : List Ed} {a : Option Addr} (h : EdsIn p w l a) (hs : w.heap.size ≤ w'.heap.size) (hp : ∀ b, p b → b < w.heap.size → q b ∧ w'.heap[b]? = w.heap[b]?) : EdsIn q w' l a :=
  SeqIn.frame h hs (fun b h1 h2 => (hp b h1 h2).1) fun t b o _ h1 h2 h3 => h3.frame (hp b h1 h2).2 hp
theorem EdsIn.below {p : Nat → Prop} {w w' : World} {l : List Ed} {a : Option Addr} (h : EdsIn p w l a) (hb : Below w.heap.size w w') : EdsIn p w' l a := h.frame hb.size fun b hp hl => ⟨hp, hb.block b hl⟩

/-- a process in memory -/
def PrIn (p : Nat → Prop) (w : World) (q : Pr) (x : Value) : Prop := ∃ a c, x = .agg #[.int .i64 q.locs, .slice a q.edges.length c] ∧ i64 q.locs ∧ q.edges.length ≤ c ∧ c ≤ maxLen ∧ EdsIn p w q.edges a
theorem PrIn.frame {p q : Nat → Prop} {w w' : World} {t : Pr} {x : Value} (h : PrIn p w t x) (hs : w.heap.size ≤ w'.heap.size) (hp : ∀ b, p b → b < w.heap.size → q b ∧ w'.heap[b]? = w.heap[b]?) : PrIn q w' t x := by
  obtain ⟨a, c, h0, h1, h2, h3, h4⟩ := h
  exact ⟨a, c, h0, h1, h2, h3, h4.frame hs hp⟩
theorem PrIn.below {p : Nat → Prop} {w w' : World} {t : Pr} {x : Value} (h : PrIn p w t x) (hb : Below w.heap.size w w') : PrIn p w' t x := h.frame hb.size fun b hp hl => ⟨hp, hb.block b hl⟩
def PrAt (p : Nat → Prop) (w : World) (q : Pr) (b o : Nat) : Prop := ∃ a c, (w.cell? ⟨b, o, none⟩ = some (.int .i64 q.locs) ∧ w.cell? ⟨b, o + 1, none⟩ = some (.slice a q.edges.length c)) ∧ PrIn p w q (.agg #[.int .i64 q.locs, .slice a q.edges.length c])
theorem PrAt.cells {p q : Nat → Prop} {w w' : World} {t : Pr} {b o : Nat} (h : PrAt p w t b o) (hs : w.heap.size ≤ w'.heap.size) (hc : ∀ i, i < 2 → w'.cell? ⟨b, o + i, none⟩ = w.cell? ⟨b, o + i, none⟩) (hp : ∀ b, p b → b < w.heap.size → q b ∧ w'.heap[b]? = w.heap[b]?) : PrAt q w' t b o := by
  obtain ⟨a, c, ⟨h0, h1⟩, hx⟩ := h
  exact ⟨a, c, ⟨(hc 0 (by omega)).trans h0, (hc 1 (by omega)).trans h1⟩, hx.frame hs hp⟩
theorem PrAt.frame {p q : Nat → Prop} {w w' : World} {t : Pr} {b o : Nat} (h : PrAt p w t b o) (hs : w.heap.size ≤ w'.heap.size) (he : w'.heap[b]? = w.heap[b]?) (hp : ∀ b, p b → b < w.heap.size → q b ∧ w'.heap[b]? = w.heap[b]?) : PrAt q w' t b o :=
  h.cells hs (fun i _ => World.cell?_of_block (w := w) (a := ⟨b, o + i, none⟩) he) hp
def PrsIn (p : Nat → Prop) (w : World) (l : List Pr) (a : Option Addr) : Prop := SeqIn (PrAt p w) 2 p w l a
theorem PrsIn.frame {p q : Nat → Prop} {w w' : World} {l : List Pr} {a : Option Addr} (h : PrsIn p w l a) (hs : w.heap.size ≤ w'.heap.size) (hp : ∀ b, p b → b < w.heap.size → q b ∧ w'.heap[b]? = w.heap[b]?) : PrsIn q w' l a :=
  SeqIn.frame h hs (fun b h1 h2 => (hp b h1 h2).1) fun t b o _ h1 h2 h3 => h3.frame hs (hp b h1 h2).2 hp
theorem PrsIn.below {p : Nat → Prop} {w w' : World} {l : List Pr} {a : Option Addr} (h : PrsIn p w l a) (hb : Below w.heap.size w w') : PrsIn p w' l a := h.frame hb.size fun b hp hl => ⟨hp, hb.block b hl⟩

theorem IntsIn.frame {p q : Nat → Prop} {w w' : World} {a : Option Addr} {l : List Int} (h : IntsIn p w a l) (hs : w.heap.size ≤ w'.heap.size) (hp : ∀ b, p b → b < w.heap.size → q b ∧ w'.heap[b]? = w.heap[b]?) : IntsIn q w' a l := ⟨h.1.frame hs hp, h.2⟩
/-- A SYSTEM IN MEMORY -/
def SyIn (p : Nat → Prop) (w : World) (s : Sy) (x : Value) : Prop := ∃ a c b d, x = .agg #[.slice a s.init.length c, .slice b s.procs.length d] ∧ s.init.length ≤ c ∧ c ≤ maxLen ∧ IntsIn p w a s.init ∧ s.procs.length ≤ d ∧ d ≤ maxLen ∧ PrsIn p w s.procs b
theorem SyIn.frame {p q : Nat → Prop} {w w' : World} {s : Sy} {x : Value} (h : SyIn p w s x) (hs : w.heap.size ≤ w'.heap.size) (hp : ∀ b, p b → b < w.heap.size → q b ∧ w'.heap[b]? = w.heap[b]?) : SyIn q w' s x := by
  obtain ⟨a, c, b, d, h0, h1, h2, h3, h4, h5, h6⟩ := h
  exact ⟨a, c, b, d, h0, h1, h2, h3.frame hs hp, h4, h5, h6.frame hs hp⟩
theorem SyIn.below {p : Nat → Prop} {w w' : World} {s : Sy} {x : Value} (h : SyIn p w s x) (hb : Below w.heap.size w w') : SyIn p w' s x := h.frame hb.size fun b hp hl => ⟨hp, hb.block b hl⟩
theorem SyIn.any {p : Nat → Prop} {w : World} {s : Sy} {x : Value} (h : SyIn p w s x) : SyIn Any w s x := h.frame (Nat.le_refl _) fun _ _ _ => ⟨trivial, rfl⟩
theorem SyIn.shape {p : Nat → Prop} {w : World} {s : Sy} {x : Value} (h : SyIn p w s x) : ∃ a c b d, x = .agg #[.slice a s.init.length c, .slice b s.procs.length d] := by
  obtain ⟨a, c, b, d, h, _⟩ := h; exact ⟨a, c, b, d, h⟩
end Go.Proofs.Ytffadknollkgiaa
