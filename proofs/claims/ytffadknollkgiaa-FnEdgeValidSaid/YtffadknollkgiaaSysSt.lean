/- Systems that are being drawn: what is known of them. Conditions: none. -/
import Derived.Test.YtffadknollkgiaaEdgeRow
import Derived.Test.YtffadknollkgiaaEdgeDraw
namespace Go.Proofs.Ytffadknollkgiaa
open Go.RowKit
set_option linter.unusedVariables false
set_option linter.unusedSimpArgs false

theorem EdC.frame {p q : Nat → Prop} {w w' : World} {M : Int} {e : Ed} {c : List Value} (h : EdC p w M e c) (hp : ∀ b, p b → b < w.heap.size → q b ∧ w'.heap[b]? = w.heap[b]?) : EdC q w' M e c := by
  obtain ⟨a, n, a', n', h1, h2, h3, h4⟩ := h
  exact ⟨a, n, a', n', h1, h2.frame hp, h3, h4⟩
theorem PrC.frame {p q : Nat → Prop} {w w' : World} {e : Pr} {c : List Value} (h : PrC p w e c) (hs : w.heap.size ≤ w'.heap.size) (hp : ∀ b, p b → b < w.heap.size → q b ∧ w'.heap[b]? = w.heap[b]?) : PrC q w' e c := by
  obtain ⟨a, n, h1, h2, h3⟩ := h
  refine ⟨a, n, h1, h2.frame hs hp, fun hne g hg j => ?_⟩
  obtain ⟨a', c', he, _, _, _, hE⟩ := h2
  subst h1
  simp only [List.toArray, Value.agg.injEq] at he
  simp at he
  obtain ⟨rfl, _⟩ := he
  rcases hE with h | ⟨b, o, rfl, hpb, hbl, _⟩
  · exact absurd h hne
  · simp at hg
    subst hg
    rw [World.frozen?_of_block (w := w) (a := ⟨b, j, none⟩) (hp b hpb hbl).2]
    exact h3 hne _ rfl j

/-- a growing row of edges; all of its memory lies behind V -/
def EdsSt (V : Nat) (M : Int) (ve : Value) (eds : List Ed) (W : World) : Prop := ∃ ces, OwnR 27 10 (V + 1) ve ces W ∧ AllR (EdC (fun b => V < b ∧ ve.ownBlock ≠ some b) W M) eds ces
theorem EdsSt.nil (V : Nat) (M : Int) (W : World) : EdsSt V M (.slice none 0 0) [] W := ⟨[], OwnR.nil .., trivial⟩
theorem EdsSt.keep {V : Nat} {M : Int} {ve : Value} {eds : List Ed} {W W' : World} (h : EdsSt V M ve eds W) (hb : ∀ b, V < b → b < W.heap.size → W'.heap[b]? = W.heap[b]?) : EdsSt V M ve eds W' := by
  obtain ⟨ces, h1, h2⟩ := h
  exact ⟨ces, h1.keep fun g _ h1 h2 => hb g h1 h2, h2.mono fun t c h => h.frame fun b hp hl => ⟨hp, hb b hp.1 hl⟩⟩
theorem EdsSt.next {V : Nat} {M : Int} {ve : Value} {eds : List Ed} {W W' : World} (h : EdsSt V M ve eds W) (hb : Below W.heap.size W W') : EdsSt V M ve eds W' := h.keep fun b _ hl => hb.block b hl
theorem EdsSt.but {V R : Nat} {M : Int} {ve : Value} {eds : List Ed} {W W' : World} (h : EdsSt V M ve eds W) (hb : But W R W') (hR : R ≤ V) : EdsSt V M ve eds W' := h.keep fun b h1 hl => hb.block b hl (by omega)
theorem EdsSt.set {V : Nat} {M : Int} {ve : Value} {eds : List Ed} {W : World} (h : EdsSt V M ve eds W) {a : Addr} (ha : a.block ≤ V) (u : Value) : EdsSt V M ve eds (W.setCell a u) := h.keep fun b h1 hl => Below.heap_setCell _ _ _ _ (by omega)
theorem EdsSt.shape {V : Nat} {M : Int} {ve : Value} {eds : List Ed} {W : World} (h : EdsSt V M ve eds W) : ∃ a c, ve = .slice a eds.length c ∧ eds.length ≤ c ∧ c ≤ maxLen ∧ EdsIn (fun b => V < b) W eds a ∧ (eds ≠ [] → ∀ g, a = some g → ∀ j, W.frozen? ⟨g.block, j, none⟩ = false) := by
  obtain ⟨ces, h1, h2⟩ := h
  obtain ⟨a, c, rfl, h3, h4, h5⟩ := h1.shape
  rw [h2.len] at h3 ⊢
  refine ⟨a, c, rfl, h3, h4, ?_⟩
  have h1' := h1
  rw [h2.len] at h1'
  have hlen := h2.len
  refine ⟨eds_of h1' (h2.mono fun t c h => h.frame (q := fun b => V < b) fun b hp hl => ⟨hp.1, rfl⟩) (fun g hg => ?_), fun hne g hg j => ?_⟩
  · subst hg
    exact (h1.blk g rfl).1
  · rcases h5 with h | ⟨b, rfl, _, _, _, h6⟩
    · subst h; exact absurd (List.eq_nil_of_length_eq_zero (by simpa using hlen.symm)) hne
    · simp at hg; subst hg; exact h6 j
theorem EdsSt.blk {V : Nat} {M : Int} {ve : Value} {eds : List Ed} {W : World} (h : EdsSt V M ve eds W) : ∀ g, ve.ownBlock = some g → V + 1 ≤ g ∧ g < W.heap.size := by
  obtain ⟨ces, h1, h2⟩ := h
  exact h1.blk
theorem EdsSt.bnd {V : Nat} {M : Int} {ve : Value} {eds : List Ed} {W : World} (h : EdsSt V M ve eds W) : ∀ e, e ∈ eds → nodes e.guard ≤ M ∧ nodes e.val ≤ M := by
  obtain ⟨ces, h1, h2⟩ := h
  intro e he
  obtain ⟨i, hi⟩ := List.mem_iff_getElem?.1 he
  obtain ⟨c, _, hc⟩ := h2.at hi
  obtain ⟨_, _, _, _, _, _, h3, h4⟩ := hc
  exact ⟨h3, h4⟩
/-- one edge more -/
theorem EdsSt.app {V : Nat} {M : Int} {ve v' : Value} {eds : List Ed} {e : Ed} {ces : List (List Value)} {c : List Value} {W W' : World} (h2 : AllR (EdC (fun b => V < b ∧ ve.ownBlock ≠ some b) W M) eds ces) (he : EdC (fun b => V < b ∧ ve.ownBlock ≠ some b) W M e c)
    (h' : OwnR 27 10 (V + 1) v' (ces ++ [c]) W') (hg : W.grownBy W' ve.ownBlock) (hv : v'.ownBlock = ve.ownBlock ∨ v'.ownBlock = some W.heap.size) : EdsSt V M v' (eds ++ [e]) W' := by
  have hf : ∀ b, (V < b ∧ ve.ownBlock ≠ some b) → b < W.heap.size → (V < b ∧ v'.ownBlock ≠ some b) ∧ W'.heap[b]? = W.heap[b]? := fun b hp hl => by
    refine ⟨⟨hp.1, ?_⟩, hg.block b hl (fun e => hp.2 e.symm)⟩
    rcases hv with hv | hv
    · rw [hv]; exact hp.2
    · rw [hv]; intro e; simp at e; omega
  exact ⟨ces ++ [c], h', AllR.snoc (he.frame hf) (h2.mono fun t c h => h.frame hf)⟩

/-- bounds of a system -/
def Bnd (M : Int) (K : Nat) (s : Sy) : Prop := s.init.length ≤ K ∧ s.procs.length ≤ K ∧ ∀ q, q ∈ s.procs → q.edges.length ≤ K ∧ ∀ e, e ∈ q.edges → nodes e.guard ≤ M ∧ nodes e.val ≤ M
/-- a growing row of processes; all of its memory lies behind S -/
def PrsSt (S : Nat) (M : Int) (K : Nat) (vp : Value) (prs : List Pr) (W : World) : Prop := (∃ cps, OwnR 41 2 (S + 1) vp cps W ∧ AllR (PrC (fun b => S < b ∧ vp.ownBlock ≠ some b) W) prs cps) ∧ ∀ q, q ∈ prs → q.edges.length ≤ K ∧ ∀ e, e ∈ q.edges → nodes e.guard ≤ M ∧ nodes e.val ≤ M
theorem PrsSt.nil (V : Nat) (M : Int) (K : Nat) (W : World) : PrsSt V M K (.slice none 0 0) [] W := ⟨⟨[], OwnR.nil .., trivial⟩, by simp⟩
theorem PrsSt.keep {V : Nat} {M : Int} {K : Nat} {ve : Value} {prs : List Pr} {W W' : World} (h : PrsSt V M K ve prs W) (hs : W.heap.size ≤ W'.heap.size) (hb : ∀ b, V < b → b < W.heap.size → W'.heap[b]? = W.heap[b]?) : PrsSt V M K ve prs W' := by
  obtain ⟨⟨ces, h1, h2⟩, h3⟩ := h
  exact ⟨⟨ces, h1.keep fun g _ h1 h2 => hb g h1 h2, h2.mono fun t c h => h.frame hs fun b hp hl => ⟨hp, hb b hp.1 hl⟩⟩, h3⟩
theorem PrsSt.next {V : Nat} {M : Int} {K : Nat} {ve : Value} {prs : List Pr} {W W' : World} (h : PrsSt V M K ve prs W) (hb : Below W.heap.size W W') : PrsSt V M K ve prs W' := h.keep hb.size fun b _ hl => hb.block b hl
theorem PrsSt.but {V R : Nat} {M : Int} {K : Nat} {ve : Value} {prs : List Pr} {W W' : World} (h : PrsSt V M K ve prs W) (hb : But W R W') (hR : R ≤ V) : PrsSt V M K ve prs W' := h.keep hb.size fun b h1 hl => hb.block b hl (by omega)
theorem PrsSt.set {V : Nat} {M : Int} {K : Nat} {ve : Value} {prs : List Pr} {W : World} (h : PrsSt V M K ve prs W) {a : Addr} (ha : a.block ≤ V) (u : Value) : PrsSt V M K ve prs (W.setCell a u) := h.keep (by simp) fun b h1 hl => Below.heap_setCell _ _ _ _ (by omega)
theorem PrsSt.blk {V : Nat} {M : Int} {K : Nat} {ve : Value} {prs : List Pr} {W : World} (h : PrsSt V M K ve prs W) : ∀ g, ve.ownBlock = some g → V + 1 ≤ g ∧ g < W.heap.size := by
  obtain ⟨⟨ces, h1, h2⟩, h3⟩ := h
  exact h1.blk
theorem PrsSt.shape {V : Nat} {M : Int} {K : Nat} {ve : Value} {prs : List Pr} {W : World} (h : PrsSt V M K ve prs W) : ∃ a c, ve = .slice a prs.length c ∧ prs.length ≤ c ∧ c ≤ maxLen ∧ PrsIn (fun b => V < b) W prs a := by
  obtain ⟨⟨ces, h1, h2⟩, _⟩ := h
  obtain ⟨a, c, rfl, h3, h4, h5⟩ := h1.shape
  rw [h2.len] at h3 ⊢
  refine ⟨a, c, rfl, h3, h4, ?_⟩
  have h1' := h1
  rw [h2.len] at h1'
  refine prs_of h1' (h2.mono fun t c h => h.frame (q := fun b => V < b) (Nat.le_refl _) fun b hp hl => ⟨hp.1, rfl⟩) (fun g hg => ?_)
  subst hg
  exact (h1.blk g rfl).1
/-- one process more -/
theorem PrsSt.app {V : Nat} {M : Int} {K : Nat} {ve v' : Value} {prs : List Pr} {q : Pr} {ces : List (List Value)} {c : List Value} {W W' : World} (h2 : AllR (PrC (fun b => V < b ∧ ve.ownBlock ≠ some b) W) prs ces) (h3 : ∀ q, q ∈ prs → q.edges.length ≤ K ∧ ∀ e, e ∈ q.edges → nodes e.guard ≤ M ∧ nodes e.val ≤ M)
    (he : PrC (fun b => V < b ∧ ve.ownBlock ≠ some b) W q c) (h4 : q.edges.length ≤ K ∧ ∀ e, e ∈ q.edges → nodes e.guard ≤ M ∧ nodes e.val ≤ M)
    (h' : OwnR 41 2 (V + 1) v' (ces ++ [c]) W') (hg : W.grownBy W' ve.ownBlock) (hv : v'.ownBlock = ve.ownBlock ∨ v'.ownBlock = some W.heap.size) : PrsSt V M K v' (prs ++ [q]) W' := by
  have hf : ∀ b, (V < b ∧ ve.ownBlock ≠ some b) → b < W.heap.size → (V < b ∧ v'.ownBlock ≠ some b) ∧ W'.heap[b]? = W.heap[b]? := fun b hp hl => by
    refine ⟨⟨hp.1, ?_⟩, hg.block b hl (fun e => hp.2 e.symm)⟩
    rcases hv with hv | hv
    · rw [hv]; exact hp.2
    · rw [hv]; intro e; simp at e; omega
  refine ⟨⟨ces ++ [c], h', AllR.snoc (he.frame hg.size hf) (h2.mono fun t c h => h.frame hg.size hf)⟩, fun r hr => ?_⟩
  rcases List.mem_append.1 hr with h | h
  · exact h3 r h
  · simp at h; subst h; exact h4

/-- a nil row of numbers has room for none -/
def NilI (v : Value) : Prop := ∀ a n c y, v = .agg #[.slice a n c, y] → a = none → c = 0
/-- what a system's drawing comes to -/
def SyPost (B K : Nat) (M : Int) (L : Nat) (R p : Nat) (w : World) (e : Ending) (w' : World) : Prop :=
  ∃ v s p', e = .returned v ∧ SyIn (fun b => w.heap.size < b) w' s v ∧ Bnd M L s ∧ NilI v ∧ But w R w' ∧ Rd B w' R p' ∧ p' ≤ p + K
/-- a system being drawn in its variable S -/
def SySt (w : World) (R S : Nat) (M : Int) (K : Nat) (vp : Value) (prs : List Pr) (W : World) : Prop := ∃ (l : List Int) (a : Option Addr) (c : Nat), l.length = 3 ∧ 3 ≤ c ∧ c ≤ maxLen ∧ BoxP W S (.slice a 3 c) vp ∧ IntsIn (fun b => w.heap.size < b ∧ b < S) W a l ∧
  PrsSt S M K vp prs W ∧ But w R W ∧ BoxP W w.heap.size (.slice none 0 0) (.slice none 0 0) ∧ w.heap.size < S
theorem SySt.next {w W W' : World} {R S : Nat} {M : Int} {K : Nat} {vp : Value} {prs : List Pr} (h : SySt w R S M K vp prs W) (hb : Below W.heap.size W W') : SySt w R S M K vp prs W' := by
  obtain ⟨l, a, c, h1, h2, h3, h4, h5, h6, h7, h8, h9⟩ := h
  exact ⟨l, a, c, h1, h2, h3, boxp_next hb h4, h5.below hb, h6.next hb, h7.next hb, boxp_next hb h8, h9⟩
theorem SySt.but {w W W' : World} {R S : Nat} {M : Int} {K : Nat} {vp : Value} {prs : List Pr} (h : SySt w R S M K vp prs W) (hb : But W R W') (hR : R < w.heap.size) : SySt w R S M K vp prs W' := by
  obtain ⟨l, a, c, h1, h2, h3, h4, h5, h6, h7, h8, h9⟩ := h
  exact ⟨l, a, c, h1, h2, h3, boxp_but hb (by omega) h4, h5.frame hb.size (fun b hp hl => ⟨hp, hb.block b hl (by have := hp.1; omega)⟩), h6.but hb (by omega), h7.trans hb, boxp_but hb (by omega) h8, h9⟩
/-- one process more, and the row stored -/
theorem SySt.app {w W W' : World} {R S : Nat} {M : Int} {K : Nat} {vp v' : Value} {prs : List Pr} {q : Pr} {c : List Value} {ces : List (List Value)} (h : SySt w R S M K vp prs W) (h2 : AllR (PrC (fun b => S < b ∧ vp.ownBlock ≠ some b) W) prs ces) (he : PrC (fun b => S < b ∧ vp.ownBlock ≠ some b) W q c)
    (h4 : q.edges.length ≤ K ∧ ∀ e, e ∈ q.edges → nodes e.guard ≤ M ∧ nodes e.val ≤ M) (hR : R < w.heap.size) (h' : OwnR 41 2 (S + 1) v' (ces ++ [c]) W') (hg : W.grownBy W' vp.ownBlock) (hv : v'.ownBlock = vp.ownBlock ∨ v'.ownBlock = some W.heap.size) :
    SySt w R S M K v' (prs ++ [q]) (W'.setCell ⟨S, 1, none⟩ v') := by
  obtain ⟨l, a, c', h1, i2, i3, i4, i5, h6, h7, h8, h9⟩ := h
  have hblk := h6.blk
  have hk : ∀ b, b ≤ S → b < W.heap.size → W'.heap[b]? = W.heap[b]? := fun b hb hl => hg.block b hl (fun e => by have := (hblk b e.symm).1; omega)
  have hS : ∀ b, b ≠ S → (W'.setCell ⟨S, 1, none⟩ v').heap[b]? = W'.heap[b]? := fun b hb => Below.heap_setCell _ _ _ _ hb
  refine ⟨l, a, c', h1, i2, i3, boxp_set1 (boxp_keep hg.size (hk S (Nat.le_refl _) i4.1) i4) _, i5.frame (by simpa using hg.size) (fun b hp hl => ⟨hp, (hS b (by omega)).trans (hk b (by omega) hl)⟩), (PrsSt.app h2 h6.2 he h4 h' hg hv).set (Nat.le_refl _) _, ?_, boxp_set (boxp_keep hg.size (hk _ (Nat.le_of_lt h9) h8.1) h8) (by simp; omega) _, h9⟩
  exact But.setNew (W := W') ⟨hg.os.trans h7.os, hg.tape.trans h7.tape, hg.output.trans h7.output, Nat.le_trans h7.size hg.size, fun k hk1 hd => (hk k (by omega) (by have := h7.size; omega)).trans (h7.block k hk1 hd)⟩ (Nat.le_of_lt h9) _
theorem SySt.done {w W : World} {R S B K p p' L : Nat} {M : Int} {vp : Value} {prs : List Pr} (h : SySt w R S M L vp prs W) (hr : Rd B W R p') (hp : p' ≤ p + K) (hB : R < B ∧ B ≤ w.heap.size) (hL : 3 ≤ L) (hn : prs.length ≤ L) :
    ∃ a c b n, vp = .slice b prs.length n ∧ BoxP W S (.slice a 3 c) (.slice b prs.length n) ∧ BoxP W w.heap.size (.slice none 0 0) (.slice none 0 0) ∧ SyPost B K M L R p w (.returned (.agg #[.slice a 3 c, .slice b prs.length n])) ((W.setCell ⟨w.heap.size, 0, none⟩ (.slice a 3 c)).setCell ⟨w.heap.size, 1, none⟩ (.slice b prs.length n)) := by
  obtain ⟨l, a, c, h1, h2, h3, h4, h5, h6, h7, h8, h9⟩ := h
  obtain ⟨b, n, rfl, i1, i2, i3⟩ := h6.shape
  have hf : ∀ g, g ≠ w.heap.size → ((W.setCell ⟨w.heap.size, 0, none⟩ (.slice a 3 c)).setCell ⟨w.heap.size, 1, none⟩ (.slice b prs.length n)).heap[g]? = W.heap[g]? := fun g hg =>
    (Below.heap_setCell _ _ _ _ hg).trans (Below.heap_setCell _ _ _ _ hg)
  refine ⟨a, c, b, n, rfl, h4, h8, _, ⟨l, prs⟩, p', rfl, ⟨a, c, b, n, by simp [h1], by simp [h1, h2], h3, h5.frame (by simp) (fun b hp hl => ⟨hp.1, hf b (by omega)⟩), i1, i2, i3.frame (by simp) (fun b hp hl => ⟨by omega, hf b (by omega)⟩)⟩, ⟨by simp [h1, hL], hn, h6.2⟩, fun a' n' c' y he ha => by { simp at he; obtain ⟨⟨rfl, _, rfl⟩, _⟩ := he; subst ha; rcases h5.1 with h | ⟨_, _, h, _⟩; { have := congrArg List.length h; simp [h1] at this }; { cases h } },
    But.setNew (But.setNew h7 (Nat.le_refl _) _) (Nat.le_refl _) _, (hr.set hB.2 _).set hB.2 _, hp⟩
end Go.Proofs.Ytffadknollkgiaa
