/- A system being spoilt: what is known of it. Conditions: those of each theorem. -/
import Derived.Test.YtffadknollkgiaaSysCopy
import Derived.Test.YtffadknollkgiaaStoreAny
namespace Go.Proofs.Ytffadknollkgiaa
open Go.RowKit
set_option linter.unusedVariables false
set_option linter.unusedSimpArgs false

theorem OwnI.ints3 {B : Nat} {p : Nat → Prop} {a : Option Addr} {n c : Nat} {l : List Int} {w : World} (h : OwnI B (.slice a n c) l w) (hi : ∀ n, n ∈ l → i64 n) (hp : ∀ g, (Value.slice a n c).ownBlock = some g → p g) : IntsIn p w a l := by
  obtain ⟨h1, h2⟩ := h.ints2 hi
  rcases h.row with ⟨rfl, _⟩ | ⟨g, c', e, _⟩
  · exact ⟨.inl rfl, h2⟩
  · simp at e
    obtain ⟨rfl, _, _⟩ := e
    rcases h1 with h1 | ⟨b, o, he, _, h3, h4⟩
    · exact ⟨.inl h1, h2⟩
    · simp at he
      obtain ⟨rfl, rfl⟩ := he
      exact ⟨.inr ⟨g, 0, rfl, hp g rfl, h3, h4⟩, h2⟩

/-- what a mutation comes to -/
def MuPost (ln : List Nat) (B K : Nat) (M : Int) (L : Nat) (R p : Nat) (w : World) (e : Ending) (w' : World) : Prop :=
  ∃ v s p', e = .returned v ∧ SyIn (fun b => w.heap.size + 1 < b) w' s v ∧ (Bnd M L s ∧ (s.procs = [] ∨ ∃ t, s.procs.map (fun q : Pr => q.edges.length) = ln ++ t)) ∧ NilI v ∧ But w R w' ∧ Rd B w' R p' ∧ p' ≤ p + K
/-- the system in its variable O, ahead of the return -/
def MuEnd (w : World) (R O : Nat) (ln : List Nat) (M : Int) (L : Nat) (a : Option Addr) (li c : Nat) (b : Option Addr) (lp d : Nat) (W : World) : Prop :=
  BoxP W O (.slice a li c) (.slice b lp d) ∧ (∃ s, SyIn (fun b => w.heap.size + 1 < b) W s (.agg #[.slice a li c, .slice b lp d]) ∧ Bnd M L s ∧ ∃ t, s.procs.map (fun q : Pr => q.edges.length) = ln ++ t) ∧ (a = none → c = 0) ∧ But w R W ∧ BoxP W (w.heap.size + 1) (.slice none 0 0) (.slice none 0 0) ∧ w.heap.size + 1 < O
theorem MuEnd.done {ln : List Nat} {w W : World} {R O B K p p' L : Nat} {M : Int} {a b : Option Addr} {li c lp d : Nat} (h : MuEnd w R O ln M L a li c b lp d W) (hr : Rd B W R p') (hp : p' ≤ p + K) (hB : R < B ∧ B ≤ w.heap.size) :
    MuPost ln B K M L R p w (.returned (.agg #[.slice a li c, .slice b lp d])) ((W.setCell ⟨w.heap.size + 1, 0, none⟩ (.slice a li c)).setCell ⟨w.heap.size + 1, 1, none⟩ (.slice b lp d)) := by
  obtain ⟨h1, ⟨s, h2, h3, h3t⟩, h4, h5, h6, h7⟩ := h
  refine ⟨_, s, p', rfl, h2.frame (by simp) (fun b hb hl => ⟨hb, (Below.heap_setCell _ _ _ _ (show b ≠ w.heap.size + 1 by omega)).trans (Below.heap_setCell _ _ _ _ (show b ≠ w.heap.size + 1 by omega))⟩), ⟨h3, .inr h3t⟩, ?_,
    But.setNew (But.setNew h5 (show w.heap.size ≤ w.heap.size + 1 by omega) _) (show w.heap.size ≤ w.heap.size + 1 by omega) _, (hr.set (show B ≤ w.heap.size + 1 by omega) _).set (show B ≤ w.heap.size + 1 by omega) _, hp⟩
  intro a' n' c' y he ha
  simp at he
  obtain ⟨⟨rfl, _, rfl⟩, _⟩ := he
  exact h4 ha
theorem MuEnd.mono {ln : List Nat} {w W : World} {R O L L' : Nat} {M M' : Int} {a b : Option Addr} {li c lp d : Nat} (h : MuEnd w R O ln M L a li c b lp d W) (hM : M ≤ M') (hL : L ≤ L') : MuEnd w R O ln M' L' a li c b lp d W := by
  obtain ⟨h1, ⟨s, h2, ⟨k1, k2, k3⟩, k4⟩, h4, h5, h6, h7⟩ := h
  exact ⟨h1, ⟨s, h2, ⟨by omega, by omega, fun q hq => ⟨by have := (k3 q hq).1; omega, fun e he => by have := (k3 q hq).2 e he; omega⟩⟩, k4⟩, h4, h5, h6, h7⟩
/-- a store into the system -/
theorem MuEnd.store {ln : List Nat} {w W : World} {R O L : Nat} {M C : Int} {a b : Option Addr} {li c lp d : Nat} (h : MuEnd w R O ln M L a li c b lp d W) {ad : Addr} {u : Value} (hs : StOk (fun b => w.heap.size + 1 < b) W ad u C) (hM : 0 ≤ M) (h1 : w.heap.size + 1 < ad.block) (h2 : ad.block ≠ O) (h3 : ∀ g, a = some g → g.block ≠ ad.block) (h4 : ∀ g, b = some g → g.block ≠ ad.block) :
    MuEnd w R O ln (C * M) L a li c b lp d (W.setCell ad u) := by
  obtain ⟨i1, ⟨s, ⟨a', c', b', d', he, j1, j2, j3, j4, j5, j6⟩, ⟨k1, k2, k3⟩, k4⟩, i4, i5, i6, i7⟩ := h
  simp at he
  obtain ⟨⟨rfl, rfl, rfl⟩, rfl, rfl, rfl⟩ := he
  obtain ⟨l', m1, m2, m4, m3⟩ := hs.prs j6 h4
  refine ⟨boxp_set i1 (Ne.symm h2) _, ⟨⟨s.init, l'⟩, ⟨a, c, b, d, by simp [m2], j1, j2, ?_, by simp only [m2]; exact j4, j5, m1⟩, ⟨k1, by simp only [m2]; exact k2, m3 M L hM k3⟩, by simp only [m4]; exact k4⟩, i4, But.setNew i5 (by omega) _, boxp_set i6 (by omega) _, i7⟩
  rcases j3 with ⟨j3 | ⟨g, o, rfl, q1, q2, q3⟩, j7⟩
  · exact ⟨.inl j3, j7⟩
  · have hg := h3 _ rfl
    exact ⟨.inr ⟨g, o, rfl, q1, by simpa using q2, fun i v hv => (World.cell?_of_block (w := W) (a := ⟨g, o + i, none⟩) (Below.heap_setCell _ _ _ _ hg)).trans (q3 i v hv)⟩, j7⟩

/-- the copy in its variable O -/
def MuSt (w : World) (R O S : Nat) (l : List Int) (vi vp : Value) (prs : List Pr) (W : World) : Prop :=
  BoxP W O vi vp ∧ OwnI (w.heap.size + 1 + 1) vi l W ∧ (∀ g, vi.ownBlock = some g → g < S) ∧
  (∃ cps, OwnR 41 2 (S + 1) vp cps W ∧ AllR (PrC (fun b => S < b ∧ b ≠ O ∧ vp.ownBlock ≠ some b) W) prs cps) ∧ (∀ g, vp.ownBlock = some g → g < O) ∧
  But w R W ∧ BoxP W (w.heap.size + 1) (.slice none 0 0) (.slice none 0 0) ∧ w.heap.size + 1 < S ∧ S < O
theorem MuSt.but {w W W' : World} {R O S : Nat} {l : List Int} {vi vp : Value} {prs : List Pr} (h : MuSt w R O S l vi vp prs W) (hb : But W R W') (hR : R < w.heap.size) : MuSt w R O S l vi vp prs W' := by
  obtain ⟨h1, h2, h3, ⟨cps, h4, h5⟩, h6, h7, h8, h9, hA⟩ := h
  exact ⟨boxp_but hb (by omega) h1, h2.but hb (by omega), h3, ⟨cps, h4.but hb (by omega), h5.mono fun t c h => h.frame hb.size fun b hp hl => ⟨hp, hb.block b hl (by omega)⟩⟩, h6, h7.trans hb, boxp_but hb (by omega) h8, h9, hA⟩
theorem MuSt.next {w W W' : World} {R O S : Nat} {l : List Int} {vi vp : Value} {prs : List Pr} (h : MuSt w R O S l vi vp prs W) (hb : Below W.heap.size W W') (hR : R < w.heap.size) : MuSt w R O S l vi vp prs W' := h.but (But.of hb) hR
/-- nothing is done to it -/
theorem MuSt.fin {w W : World} {R O S L : Nat} {M : Int} {l : List Int} {vi vp : Value} {prs : List Pr} (h : MuSt w R O S l vi vp prs W) (hl : l.length ≤ L ∧ ∀ n, n ∈ l → i64 n) (hp : prs.length ≤ L) (hq : ∀ q, q ∈ prs → q.edges.length ≤ L ∧ ∀ e, e ∈ q.edges → nodes e.guard ≤ M ∧ nodes e.val ≤ M) :
    ∃ a c b d, vi = .slice a l.length c ∧ vp = .slice b prs.length d ∧ MuEnd w R O (prs.map (fun q : Pr => q.edges.length)) M L a l.length c b prs.length d W := by
  obtain ⟨h1, h2, h3, ⟨cps, h4, h5⟩, h6, h7, h8, h9, hA⟩ := h
  obtain ⟨a, c, rfl, i1, i2, i3⟩ := h2.shape
  obtain ⟨b, d, rfl, j1, j2, _⟩ := h4.shape
  have hb := h2.blk
  have hb2 := h4.blk
  rw [h5.len] at *
  have hP : PrsIn (fun b => w.heap.size + 1 < b) W prs b := by
    refine prs_of h4 (h5.mono fun t c h => h.frame (Nat.le_refl _) fun b hp hl => ⟨by have := hp.1; omega, rfl⟩) (fun g hg => ?_)
    subst hg
    have := (hb2 g rfl).1
    omega
  exact ⟨a, c, b, d, rfl, rfl, h1, ⟨⟨l, prs⟩, ⟨a, c, b, d, rfl, i1, i2, h2.ints3 hl.2 (fun g hg => by have := (hb g hg).1; omega), j1, j2, hP⟩, ⟨hl.1, hp, hq⟩, [], by simp⟩, i3, h7, h8, by omega⟩
/-- a number is appended -/
theorem MuSt.app0 {w W W' : World} {R O S L : Nat} {M : Int} {l : List Int} {vi vp vi' : Value} {prs : List Pr} (h : MuSt w R O S l vi vp prs W) (hR : R < w.heap.size) {l' : List Int} (h' : OwnI (w.heap.size + 1 + 1) vi' l' W') (hg : W.grownBy W' vi.ownBlock) (hv : vi'.ownBlock = vi.ownBlock ∨ vi'.ownBlock = some W.heap.size)
    (hl : l'.length ≤ L ∧ ∀ n, n ∈ l' → i64 n) (hp : prs.length ≤ L) (hq : ∀ q, q ∈ prs → q.edges.length ≤ L ∧ ∀ e, e ∈ q.edges → nodes e.guard ≤ M ∧ nodes e.val ≤ M) :
    ∃ a c b d, vi' = .slice a l'.length c ∧ vp = .slice b prs.length d ∧ MuEnd w R O (prs.map (fun q : Pr => q.edges.length)) M L a l'.length c b prs.length d (W'.setCell ⟨O, 0, none⟩ vi') := by
  obtain ⟨h1, h2, h3, ⟨cps, h4, h5⟩, h6, h7, h8, h9, hA⟩ := h
  obtain ⟨a, c, rfl, i1, i2, i3⟩ := h'.shape
  obtain ⟨b, d, rfl, j1, j2, _⟩ := h4.shape
  have hb0 := h2.blk
  have hb := h'.blk
  have hb2 := h4.blk
  have hOs := h1.1
  rw [h5.len] at *
  have hk : ∀ b, (∀ g, vi.ownBlock = some g → g ≠ b) → b < W.heap.size → W'.heap[b]? = W.heap[b]? := fun b hb hl => hg.block b hl (fun e => hb b e.symm rfl)
  have hkS : ∀ b, S ≤ b → b < W.heap.size → W'.heap[b]? = W.heap[b]? := fun b hS hl => hk b (fun g e => by have := h3 g e; omega) hl
  have hO : ∀ b, b ≠ O → (W'.setCell ⟨O, 0, none⟩ (.slice a l'.length c)).heap[b]? = W'.heap[b]? := fun b hb => Below.heap_setCell _ _ _ _ hb
  have hfr : ∀ b, (S < b ∧ b ≠ O) → b < W.heap.size → (W'.setCell ⟨O, 0, none⟩ (.slice a l'.length c)).heap[b]? = W.heap[b]? := fun b hb hl => (hO b hb.2).trans (hkS b (by omega) hl)
  have h4' := h4.keep (w' := W'.setCell ⟨O, 0, none⟩ (.slice a l'.length c)) (fun g e hB hl => hfr g ⟨by omega, by have := h6 g e; omega⟩ hl)
  have hP : PrsIn (fun b => w.heap.size + 1 < b) (W'.setCell ⟨O, 0, none⟩ (.slice a l'.length c)) prs b := by
    refine prs_of h4' (h5.mono fun t c h => h.frame (by simpa using hg.size) fun b hp hl => ⟨by have := hp.1; omega, hfr b ⟨hp.1, hp.2.1⟩ hl⟩) (fun g hg => ?_)
    subst hg
    have := (hb2 g rfl).1
    omega
  have hne : ∀ g, (Value.slice a l'.length c).ownBlock = some g → g ≠ O := fun g e => by
    rcases hv with hv | hv
    · have := h3 g (hv ▸ e); omega
    · rw [hv] at e; simp at e; omega
  have hI := (h'.keep (w' := W'.setCell ⟨O, 0, none⟩ (.slice a l'.length c)) (fun g e _ _ => hO g (hne g e))).ints3 hl.2 (p := fun b => w.heap.size + 1 < b) (fun g e => by have := (hb g e).1; omega)
  refine ⟨a, c, b, d, rfl, rfl, boxp_set0 (boxp_keep hg.size (hkS O (by omega) hOs) h1) _, ⟨⟨l', prs⟩, ⟨a, c, b, d, rfl, i1, i2, hI, j1, j2, hP⟩, ⟨hl.1, hp, hq⟩, [], by simp⟩, i3, But.setNew ?_ (show w.heap.size ≤ O by omega) _, boxp_set (boxp_keep hg.size (hk _ (fun g e => by have := (hb0 g e).1; omega) h8.1) h8) (show w.heap.size + 1 ≠ O by omega) _, by omega⟩
  exact But.own h7 h2 (by omega) hg
/-- a process is appended -/
theorem MuSt.app1 {w W W' : World} {R O S L : Nat} {M : Int} {l : List Int} {vi vp vp' : Value} {prs : List Pr} {q : Pr} {cq : List Value} {cps : List (List Value)} (h : MuSt w R O S l vi vp prs W) (hR : R < w.heap.size) (h5 : AllR (PrC (fun b => S < b ∧ b ≠ O ∧ vp.ownBlock ≠ some b) W) prs cps) (h5q : PrC (fun b => S < b ∧ b ≠ O ∧ vp.ownBlock ≠ some b) W q cq)
    (h' : OwnR 41 2 (S + 1) vp' (cps ++ [cq]) W') (hg : W.grownBy W' vp.ownBlock) (hv : vp'.ownBlock = vp.ownBlock ∨ vp'.ownBlock = some W.heap.size)
    (hl : l.length ≤ L ∧ ∀ n, n ∈ l → i64 n) (hp : (prs ++ [q]).length ≤ L) (hq : ∀ r, r ∈ prs ++ [q] → r.edges.length ≤ L ∧ ∀ e, e ∈ r.edges → nodes e.guard ≤ M ∧ nodes e.val ≤ M) :
    ∃ a c b d, vi = .slice a l.length c ∧ vp' = .slice b (prs ++ [q]).length d ∧ MuEnd w R O (prs.map (fun q : Pr => q.edges.length)) M L a l.length c b (prs ++ [q]).length d (W'.setCell ⟨O, 1, none⟩ vp') := by
  obtain ⟨h1, h2, h3, ⟨cps', h4, _⟩, h6, h7, h8, h9, hA⟩ := h
  have h5' := AllR.snoc h5q h5
  obtain ⟨a, c, rfl, i1, i2, i3⟩ := h2.shape
  obtain ⟨b, d, rfl, j1, j2, _⟩ := h'.shape
  have hb0 := h2.blk
  have hb := h4.blk
  have hb2 := h'.blk
  have hOs := h1.1
  rw [h5'.len] at *
  have hk : ∀ b, (∀ g, vp.ownBlock = some g → g ≠ b) → b < W.heap.size → W'.heap[b]? = W.heap[b]? := fun b hb hl => hg.block b hl (fun e => hb b e.symm rfl)
  have hO : ∀ y, y ≠ O → (W'.setCell ⟨O, 1, none⟩ (.slice b (prs ++ [q]).length d)).heap[y]? = W'.heap[y]? := fun y hb => Below.heap_setCell _ _ _ _ hb
  have hne : ∀ g, (Value.slice b (prs ++ [q]).length d).ownBlock = some g → g ≠ O := fun g e => by
    rcases hv with hv | hv
    · have := h6 g (hv ▸ e); omega
    · rw [hv] at e; simp at e; omega
  have hP : PrsIn (fun b => w.heap.size + 1 < b) (W'.setCell ⟨O, 1, none⟩ (.slice b (prs ++ [q]).length d)) (prs ++ [q]) b := by
    refine prs_of (h'.keep (fun g e _ _ => hO g (hne g e))) (h5'.mono fun t c h => h.frame (by simpa using hg.size) fun b hp hl => ⟨by have := hp.1; omega, (hO b hp.2.1).trans (hg.block b hl (fun e => hp.2.2 e.symm))⟩) (fun g hg => ?_)
    subst hg
    have := (hb2 g rfl).1
    omega
  have hI := (h2.keep (w' := W'.setCell ⟨O, 1, none⟩ (.slice b (prs ++ [q]).length d)) (fun g e _ hl => (hO g (by have := h3 g e; omega)).trans (hk g (fun g' e' => by have := (hb g' e').1; have := h3 g e; omega) hl))).ints3 hl.2 (p := fun b => w.heap.size + 1 < b) (fun g e => by have := (hb0 g e).1; omega)
  refine ⟨a, c, b, d, rfl, rfl, boxp_set1 (boxp_keep hg.size (hk O (fun g e => by have := h6 g e; omega) hOs) h1) _, ⟨⟨l, prs ++ [q]⟩, ⟨a, c, b, d, rfl, i1, i2, hI, j1, j2, hP⟩, ⟨hl.1, hp, hq⟩, _, List.map_append⟩, i3, But.setNew ?_ (show w.heap.size ≤ O by omega) _, boxp_set (boxp_keep hg.size (hk _ (fun g e => by have := (hb g e).1; omega) h8.1) h8) (show w.heap.size + 1 ≠ O by omega) _, by omega⟩
  exact ⟨hg.os.trans h7.os, hg.tape.trans h7.tape, hg.output.trans h7.output, Nat.le_trans h7.size hg.size, fun k hk1 hd => (hg.block k (Nat.lt_of_lt_of_le hk1 h7.size) (fun e => by have := (hb k e.symm).1; omega)).trans (h7.block k hk1 hd)⟩
theorem row_one (W : World) (x : Int) (h : i64 x) : IntsIn Any (W.alloc (.cells #[.int .i64 x] 3)) (some ⟨W.heap.size, 0, none⟩) [x] := ⟨.inr ⟨W.heap.size, 0, rfl, trivial, by simp, fun i v hi => by
    cases i with
    | zero => simp at hi; subst hi; simp
    | succ i => simp at hi⟩, fun m hm => by simp at hm; subst hm; exact h⟩
theorem MuSt.cell {w W : World} {R O S : Nat} {l : List Int} {vi vp : Value} {prs : List Pr} (h : MuSt w R O S l vi vp prs W) {i : Nat} (hi : i < prs.length) :
    ∃ pb pd al ld, vp = .slice (some ⟨pb, 0, none⟩) prs.length pd ∧ W.cell? ⟨pb, i * 2 + 1, none⟩ = some (.slice al prs[i].edges.length ld) ∧ pb < W.heap.size := by
  obtain ⟨h1, h2, h3, ⟨cps, h4, h5⟩, h6, h7, h8, h9, hA⟩ := h
  obtain ⟨b, d, rfl, j1, j2, j3⟩ := h4.shape
  rw [h5.len] at *
  rcases j3 with j3 | ⟨g, rfl, j3, j4, j5, j6⟩
  · subst j3
    have := h5.len
    simp at this
    omega
  · obtain ⟨cc, hcc, a1, n1, e1, _⟩ := h5.at (List.getElem?_eq_getElem hi)
    subst e1
    exact ⟨g, d, a1, n1, rfl, j5 i 1 _ hcc (by omega), j4⟩
/-- where the first edge of a process lies -/
theorem MuSt.edge {w W : World} {R O S : Nat} {l : List Int} {vi vp : Value} {prs : List Pr} (h : MuSt w R O S l vi vp prs W) {i : Nat} (hi : i < prs.length) (hne : prs[i].edges ≠ []) :
    ∃ pb pd eb eo ed, vp = .slice (some ⟨pb, 0, none⟩) prs.length pd ∧ W.cell? ⟨pb, i * 2 + 1, none⟩ = some (.slice (some ⟨eb, eo, none⟩) prs[i].edges.length ed) ∧ S < eb ∧ eb ≠ O ∧ eb ≠ pb ∧ eb < W.heap.size ∧ S < pb ∧ pb < O ∧ pb < W.heap.size ∧
      (∃ e, EdAt (fun b => S < b) W e eb eo) ∧ ∀ j, W.frozen? ⟨eb, j, none⟩ = false := by
  obtain ⟨h1, h2, h3, ⟨cps, h4, h5⟩, h6, h7, h8, h9, hA⟩ := h
  obtain ⟨b, d, rfl, j1, j2, j3⟩ := h4.shape
  rw [h5.len] at *
  rcases j3 with j3 | ⟨g, rfl, j3, j4, j5, j6⟩
  · subst j3
    have := h5.len
    simp at this
    omega
  · obtain ⟨cc, hcc, a1, n1, e1, ⟨a2, c2, he, k1, k2, k3, k4⟩, k5⟩ := h5.at (List.getElem?_eq_getElem hi)
    subst e1
    simp at he
    obtain ⟨rfl, rfl⟩ := he
    have hcell := j5 i 1 _ hcc (by omega)
    rcases k4 with k4 | ⟨eb, eo, rfl, m1, m2, m3⟩
    · exact absurd k4 hne
    · have h0 := m3 0 _ (List.getElem?_eq_getElem (by have := mt List.eq_nil_of_length_eq_zero hne; omega : 0 < prs[i].edges.length))
      rw [Nat.zero_mul, Nat.add_zero] at h0
      refine ⟨g, d, eb, eo, n1, rfl, hcell, m1.1, m1.2.1, fun e => m1.2.2 (by subst e; rfl), m2, by omega, h6 g rfl, j4, ⟨_, h0.frame rfl (fun b hb _ => ⟨hb.1, rfl⟩)⟩, fun j => ?_⟩
      exact k5 hne _ rfl j
end Go.Proofs.Ytffadknollkgiaa
