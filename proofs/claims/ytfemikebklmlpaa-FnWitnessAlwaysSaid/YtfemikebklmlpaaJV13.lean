/- Joined texts (GrCp, BfsP): contracts and plain laws. Conditions: those of each theorem. -/
import Derived.Test.YtfemikebklmlpaaJV4
import Derived.Test.YtfemikebklmlpaaJV0
set_option linter.unusedVariables false
set_option linter.unusedSimpArgs false
namespace Go.Proofs.Ytfemikebklmlpaa
open Go.RowKit
set_option linter.unusedVariables false
set_option linter.unusedSimpArgs false
namespace Gr

/-- a cell that is a row of its own block, from N on, not the row of rows' -/
def RoS (N : Nat) (vn : Value) (w : World) (t : List Int) (c : List Value) : Prop := ∃ a n, c = [.slice a t.length n] ∧ OwnI N (.slice a t.length n) t w ∧ (∀ i, i ∈ t → i64 i) ∧ t.length ≤ 1000 ∧ ∀ b, (Value.slice a t.length n).ownBlock = some b → vn.ownBlock ≠ some b
def Dis (c d : List Value) : Prop := ∀ b, (c.headD undef).ownBlock = some b → (d.headD undef).ownBlock ≠ some b
def COwn (L N O : Nat) (vs vn : Value) (g : G2) (W : World) : Prop := ∃ cs cn, OwnR 91 2 L vs cs W ∧ OwnR 30 1 N vn cn W ∧ AllR (StC (fun b => L ≤ b ∧ b < N ∧ b ≠ O ∧ vs.ownBlock ≠ some b) W) g.states cs ∧ AllR (RoS N vn W) g.next cn ∧ cn.Pairwise Dis ∧
  L ≤ O ∧ O < N ∧ ∀ b, vs.ownBlock = some b → b < N ∧ b ≠ O
theorem RoS.keep {N : Nat} {vn : Value} {w w' : World} {t : List Int} {c : List Value} (h : RoS N vn w t c) (hb : ∀ b, (c.headD undef).ownBlock = some b → N ≤ b → b < w.heap.size → w'.heap[b]? = w.heap[b]?) : RoS N vn w' t c := by
  obtain ⟨a, n, rfl, h1, h2⟩ := h
  exact ⟨a, n, rfl, h1.keep fun g e h1 h2 => hb g (by simpa using e) h1 h2, h2⟩
theorem COwn.keep {L N O : Nat} {vs vn : Value} {g : G2} {W W' : World} (h : COwn L N O vs vn g W) (hs : W.heap.size ≤ W'.heap.size) (hb : ∀ b, L ≤ b → b ≠ O → b < W.heap.size → W'.heap[b]? = W.heap[b]?) : COwn L N O vs vn g W' := by
  obtain ⟨cs, cn, h1, h2, h3, h4, h5, h6, h7, h8⟩ := h
  exact ⟨cs, cn, h1.keep fun g e i1 i2 => hb g i1 (h8 g e).2 i2, h2.keep fun g e i1 i2 => hb g (by omega) (by omega) i2, h3.mono fun t c h => h.frame hs fun b hp hl => ⟨hp, hb b hp.1 hp.2.2.1 hl⟩, h4.mono fun t c h => h.keep fun b _ i1 i2 => hb b (by omega) (by omega) i2, h5, h6, h7, h8⟩
theorem COwn.next {L N O : Nat} {vs vn : Value} {g : G2} {W W' : World} (h : COwn L N O vs vn g W) (hb : Below W.heap.size W W') : COwn L N O vs vn g W' := h.keep hb.size fun b _ _ hl => hb.block b hl
theorem COwn.but {L N O R : Nat} {vs vn : Value} {g : G2} {W W' : World} (h : COwn L N O vs vn g W) (hb : But W R W') (hR : R < L) : COwn L N O vs vn g W' := h.keep hb.size fun b i1 _ hl => hb.block b hl (by omega)
theorem COwn.low {L L' N O : Nat} {vs vn : Value} {g : G2} {W : World} (h : COwn L N O vs vn g W) (hL : L' ≤ L) : COwn L' N O vs vn g W := by
  obtain ⟨cs, cn, h1, h2, h3, h4, h5, h6, h7, h8⟩ := h
  refine ⟨cs, cn, ⟨⟨h1.1.1, ?_⟩, h1.2⟩, h2, h3.mono fun t c h => h.frame (Nat.le_refl _) fun b hp hl => ⟨⟨Nat.le_trans hL hp.1, hp.2⟩, rfl⟩, h4, h5, Nat.le_trans hL h6, h7, h8⟩
  rcases h1.1.2 with k | ⟨g, cap, cur, e1, e2, e3⟩
  · exact .inl k
  · exact .inr ⟨g, cap, cur, e1, by omega, e3⟩
/-- of states alone -/
theorem COwn.of {L N O : Nat} {vs : Value} {sts : List S2} {W : World} (h : GOwn L O none vs (.slice none 0 0) ⟨sts, []⟩ W) (hN : W.heap.size ≤ N) (hO : L ≤ O) (hO2 : O < N) : COwn L N O vs (.slice none 0 0) ⟨sts, []⟩ W := by
  obtain ⟨cs, cn, h1, h2, h3, h4, h5, h6⟩ := h
  refine ⟨cs, [], h1, OwnR.nil .., h3.mono fun t c h => h.frame (Nat.le_refl _) fun b hp hl => ⟨⟨hp.1, Nat.lt_of_lt_of_le hl hN, hp.2.1, hp.2.2.2.1⟩, rfl⟩, trivial, List.Pairwise.nil, hO, hO2, fun b e => ⟨Nat.lt_of_lt_of_le (h1.blk b e).2 hN, (h5 b e).1⟩⟩
/-- one row more -/
theorem COwn.app {L N O B : Nat} {vs vn v v' : Value} {sts : List S2} {nx : List (List Int)} {t : List Int} {W0 W W' : World} {cs cn : List (List Value)}
    (h1 : OwnR 91 2 L vs cs W0) (h2 : OwnR 30 1 N vn cn W0) (h3 : AllR (StC (fun b => L ≤ b ∧ b < N ∧ b ≠ O ∧ vs.ownBlock ≠ some b) W0) sts cs) (h4 : AllR (RoS N vn W0) nx cn) (h5 : cn.Pairwise Dis) (h6 : L ≤ O) (h7 : O < N) (h8 : ∀ b, vs.ownBlock = some b → b < N ∧ b ≠ O) (hN : N ≤ W0.heap.size)
    (hb : Below W0.heap.size W0 W) (hv : OwnI B v t W) (hB : W0.heap.size ≤ B) (hi : ∀ n, n ∈ t → i64 n) (ht : t.length ≤ 1000) (i1 : OwnR 30 1 N v' (cn ++ [[v]]) W') (i2 : W.grownBy W' vn.ownBlock) (i3 : v'.ownBlock = vn.ownBlock ∨ v'.ownBlock = some W.heap.size) : COwn L N O vs v' ⟨sts, nx ++ [t]⟩ W' := by
  have hs := Nat.le_trans hb.size i2.size
  have hvn := h2.blk
  have hf : ∀ b, b < W0.heap.size → vn.ownBlock ≠ some b → W'.heap[b]? = W0.heap[b]? := fun b hl hne => (i2.block b (Nat.lt_of_lt_of_le hl hb.size) (fun e => hne e.symm)).trans (hb.block b hl)
  have hrow : ∀ c, c ∈ cn → ∀ b, (c.headD undef).ownBlock = some b → b < W0.heap.size ∧ vn.ownBlock ≠ some b := fun c hc b e => by
    obtain ⟨i, hi⟩ := List.mem_iff_getElem?.1 hc
    have hlen := h4.len
    have hil : i < nx.length := by have := (List.getElem?_eq_some_iff.1 hi).1; omega
    obtain ⟨c', hc', a, n, e1, e2, _, _, e3⟩ := h4.at (List.getElem?_eq_getElem hil)
    rw [hi] at hc'
    simp at hc'
    subst hc'
    subst e1
    exact ⟨(e2.blk b (by simpa using e)).2, e3 b (by simpa using e)⟩
  refine ⟨cs, cn ++ [[v]], h1.keep fun g e _ hl => hf g hl (fun e' => by have := (h8 g e).1; have := (hvn g e').1; omega), i1, h3.mono fun t c h => h.frame hs fun b hp hl => ⟨hp, hf b hl (fun e => by have := (hvn b e).1; omega)⟩, AllR.snoc ?_ ?_, ?_, h6, h7, h8⟩
  · obtain ⟨a, n, rfl, _⟩ := hv.shape
    refine ⟨a, n, rfl, ?_, hi, ht, fun b e e' => ?_⟩
    · exact (hv.mono (Nat.le_trans hN hB)).keep fun g e _ hl => i2.block g hl (fun e' => by have := (hv.blk g e).1; have := (hvn g e'.symm).2; omega)
    · have := hv.blk b e
      rcases i3 with i3 | i3
      · rw [i3] at e'; have := (hvn b e').2; omega
      · rw [i3] at e'; simp at e'; omega
  · have hm : ∀ (l : List (List Int)) (cc : List (List Value)), (∀ c, c ∈ cc → c ∈ cn) → AllR (RoS N vn W0) l cc → AllR (RoS N v' W') l cc := by
      intro l
      induction l with
      | nil => intro cc hcc h; cases cc with
        | nil => trivial
        | cons => exact h.elim
      | cons u us ih => intro cc hcc h; cases cc with
        | nil => exact h.elim
        | cons c cs' =>
          refine ⟨?_, ih cs' (fun c hc => hcc c (by simp [hc])) h.2⟩
          obtain ⟨a, n, rfl, k1, k2, k3, k4⟩ := h.1
          have hr := hrow [.slice a u.length n] (hcc _ (by simp))
          refine ⟨a, n, rfl, k1.keep fun g e _ hl => hf g hl (k4 g e), k2, k3, fun b e e' => ?_⟩
          have h9 := hr b (by simpa using e)
          rcases i3 with i3 | i3
          · rw [i3] at e'; exact h9.2 e'
          · rw [i3] at e'; simp at e'; have := hb.size; omega
    exact hm nx cn (fun c hc => hc) h4
  · rw [List.pairwise_append]
    refine ⟨h5, by simp, fun c hc d hd b e e' => ?_⟩
    simp at hd
    subst hd
    have h9 := (hrow c hc b e).1
    have := (hv.blk b (by simpa using e')).1
    omega
theorem COwn.gown {L N O : Nat} {vs vn : Value} {g : G2} {W : World} (h : COwn L N O vs vn g W) : GOwn L O none vs vn g W := by
  obtain ⟨cs, cn, h1, h2, h3, h4, h5, h6, h7, h8⟩ := h
  have hvn := h2.blk
  refine ⟨cs, cn, h1, ?_, h3.mono fun t c h => h.frame (Nat.le_refl _) fun b hp hl => ⟨⟨hp.1, hp.2.2.1, by simp, hp.2.2.2, fun e => by have := (hvn b e).1; omega⟩, rfl⟩, h4.mono fun t c h => ?_, fun b e => ⟨(h8 b e).2, by simp, fun e' => by have := (h8 b e).1; have := (hvn b e').1; omega⟩, fun b e => ⟨by have := (hvn b e).1; omega, by simp⟩⟩
  · refine ⟨⟨h2.1.1, ?_⟩, h2.2⟩
    rcases h2.1.2 with k | ⟨g, cap, cur, e1, e2, e3⟩
    · exact .inl k
    · exact .inr ⟨g, cap, cur, e1, by omega, e3⟩
  · obtain ⟨a, n, rfl, k1, k2, k3, k4⟩ := h
    exact ⟨a, n, rfl, RN.own k1 k2 k3 fun b e => ⟨by have := (k1.blk b e).1; omega, by have := (k1.blk b e).1; omega, by simp, fun e' => by have := (k1.blk b e).1; have := (h8 b e').1; omega, k4 b e⟩⟩
/-- a row stored over a row: the core -/
theorem row_core {L L1 k b n : Nat} {P : Nat → Prop} {vs vn : Value} {sts : List S2} {nx : List (List Int)} {cs cn : List (List Value)} {t : List Int} {a : Option Addr} {W : World} (h1 : OwnR 91 2 L vs cs W) (h2 : OwnR 30 1 L1 vn cn W) (h3 : AllR (StC P W) sts cs) (l2 : cn.length = nx.length)
    (h4 : ∀ i t' c, i ≠ k → nx[i]? = some t' → cn[i]? = some c → RoC P W t' c) (hk : k < nx.length) (hvn : vn.ownBlock = some b) (hvs : vs.ownBlock ≠ some b) (hL : L ≤ L1) (hP : ∀ j, P j → L ≤ j ∧ j ≠ b) (hr : t.length ≤ n ∧ n ≤ maxLen ∧ IntsIn P W a t) : GrIn (fun b => L ≤ b) (W.setCell ⟨b, k, none⟩ (.slice a t.length n)) ⟨sts, nx.set k t⟩ (.agg #[vs, vn]) := by
  have hne : ∀ j, j ≠ b → (W.setCell ⟨b, k, none⟩ (.slice a t.length n)).heap[j]? = W.heap[j]? := fun j hj => Below.heap_setCell _ _ _ _ hj
  have hsz : W.heap.size ≤ (W.setCell ⟨b, k, none⟩ (.slice a t.length n)).heap.size := by simp
  have hf : ∀ j, P j → j < W.heap.size → L ≤ j ∧ (W.setCell ⟨b, k, none⟩ (.slice a t.length n)).heap[j]? = W.heap[j]? := fun j hp _ => ⟨(hP j hp).1, hne j (hP j hp).2⟩
  have l1 := h3.len
  have h1' := h1.keep (w' := W.setCell ⟨b, k, none⟩ (.slice a t.length n)) fun j e _ _ => hne j (fun e' => hvs (by rw [e, e']))
  obtain ⟨av, cv, rfl, p1, p2, _⟩ := h1.shape
  obtain ⟨bv, dv, rfl, q1, q2, q3⟩ := h2.shape
  have hb1 := h1.blk
  rw [l1] at p1 h1' hb1 ⊢
  rw [l2] at q1 ⊢
  refine ⟨av, cv, bv, dv, by simp, p1, p2, sts_of h1' (h3.mono fun t c h => h.frame hsz (fun j hp hl => hf j hp hl)) (fun j hj => by subst hj; exact (hb1 j rfl).1), by simpa using q1, q2, ?_⟩
  rcases q3 with q3 | ⟨b', rfl, r1, r2, r3, r4⟩
  · rw [q3] at l2; simp at l2; omega
  simp [Value.ownBlock] at hvn
  subst hvn
  refine .inr ⟨b', 0, rfl, Nat.le_trans hL r1, by simpa using r2, fun i t' ht' => ?_⟩
  have hi : i < nx.length := by have := (List.getElem?_eq_some_iff.1 ht').1; simpa using this
  obtain ⟨c', hc'⟩ : ∃ c', cn[i]? = some c' := ⟨_, List.getElem?_eq_getElem (by omega)⟩
  have hc := r3 i 0 c' hc' (by omega)
  rw [Nat.mul_one, Nat.add_zero] at hc
  rw [Nat.zero_add, Nat.mul_one]
  by_cases hik : i = k
  · subst hik
    rw [List.getElem?_set_self hk, Option.some.injEq] at ht'
    subst ht'
    have hcl : c'.length = 1 := h2.2 c' (List.mem_of_getElem? hc')
    rw [List.getElem?_eq_getElem (by omega)] at hc
    exact ⟨a, n, World.cell?_setCell_same _ _ _ hc, a, n, rfl, hr.1, hr.2.1, ints_frame hr.2.2 hsz fun j hp hl => hf j hp hl⟩
  · rw [List.getElem?_set_ne (Ne.symm hik)] at ht'
    obtain ⟨a', n', e1, e2⟩ := h4 i t' c' hik ht' hc'
    rw [e1] at hc
    exact ⟨a', n', by rw [World.cell?_setCell_other _ _ _ _ (by first | (simp; done) | (simp; omega) | omega)]; exact hc, a', n', rfl, e2.1, e2.2.1, ints_frame e2.2.2.1 hsz fun j hp hl => hf j hp hl⟩
theorem GOwn.setRow {L O k b n : Nat} {x : Option Nat} {vs vn : Value} {sts : List S2} {nx : List (List Int)} {t : List Int} {a : Option Addr} {W : World} (h : GOwn L O x vs vn ⟨sts, nx⟩ W) (hk : k < nx.length) (hvn : vn.ownBlock = some b) (hr : RN (pX L O x vs vn) W t a n) : GrIn (fun b => L ≤ b) (W.setCell ⟨b, k, none⟩ (.slice a t.length n)) ⟨sts, nx.set k t⟩ (.agg #[vs, vn]) := by
  obtain ⟨cs, cn, h1, h2, h3, h4, h5, h6⟩ := h
  exact row_core h1 h2 h3 h4.len (fun i t' c _ ht hc => by obtain ⟨c', hc', k⟩ := h4.at ht; rw [hc] at hc'; simp at hc'; subst hc'; exact k) hk hvn (fun e => (h5 b e).2.2 hvn) (Nat.le_refl _) (fun j hp => ⟨hp.1, fun e => hp.2.2.2.2 (by rw [hvn, e])⟩) ⟨hr.1, hr.2.1, hr.2.2.1⟩
/-- a row that has grown, stored -/
theorem COwn.appRow {L N O k b n n' : Nat} {vs vn : Value} {sts : List S2} {nx : List (List Int)} {t t' : List Int} {a a' : Option Addr} {W W' : World} (h : COwn L N O vs vn ⟨sts, nx⟩ W) (hk : k < nx.length) (hvn : vn.ownBlock = some b) (hc : W.cell? ⟨b, k, none⟩ = some (.slice a t.length n))
    (hg : W.grownBy W' (Value.slice a t.length n).ownBlock) (hv : OwnI N (.slice a' t'.length n') t' W') (hi : ∀ i, i ∈ t' → i64 i) (hb : (Value.slice a' t'.length n').ownBlock = (Value.slice a t.length n).ownBlock ∨ (Value.slice a' t'.length n').ownBlock = some W.heap.size) : GrIn (fun b => L ≤ b) (W'.setCell ⟨b, k, none⟩ (.slice a' t'.length n')) ⟨sts, nx.set k t'⟩ (.agg #[vs, vn]) := by
  obtain ⟨cs, cn, h1, h2, h3, h4, h5, h6, h7, h8⟩ := h
  have hvb := h2.blk b hvn
  obtain ⟨c0, hc0, a0, n0, e0, o1, o2, o3, o4⟩ := h4.at (List.getElem?_eq_getElem hk)
  have hcell : W.cell? ⟨b, k, none⟩ = c0[0]? := by
    obtain ⟨bv, dv, rfl, q1, q2, q3⟩ := h2.shape
    rcases q3 with q3 | ⟨b', rfl, r1, r2, r3, r4⟩
    · rw [q3] at hc0; simp at hc0
    · simp [Value.ownBlock] at hvn
      subst hvn
      have := r3 k 0 c0 hc0 (by omega)
      rw [Nat.mul_one, Nat.add_zero] at this
      exact this
  rw [e0] at hcell
  rw [hc] at hcell
  simp at hcell
  obtain ⟨rfl, hlen, rfl⟩ := hcell
  rw [hlen] at hg hb
  have hown : ∀ g, (Value.slice a (nx[k]).length n).ownBlock = some g → N ≤ g ∧ g < W.heap.size ∧ g ≠ b := fun g e => ⟨(o1.blk g e).1, (o1.blk g e).2, fun e' => o4 g e (by rw [hvn, e'])⟩
  have hfr : ∀ j, j < W.heap.size → (Value.slice a (nx[k]).length n).ownBlock ≠ some j → W'.heap[j]? = W.heap[j]? := fun j hl hne => hg.block j hl (fun e => hne e.symm)
  have hlow : ∀ j, j < N → j < W.heap.size → W'.heap[j]? = W.heap[j]? := fun j hj hl => hfr j hl (fun e => by have := (hown j e).1; omega)
  refine row_core (P := fun j => L ≤ j ∧ j ≠ b) (L1 := N) (cs := cs) (cn := cn) (h1.keep fun g e _ hl => hlow g (h8 g e).1 hl) (h2.keep fun g e _ hl => hfr g hl (fun e' => by have := (hown g e').2.2; rw [hvn] at e; simp at e; omega))
    (h3.mono fun t c h => h.frame hg.size fun j hp hl => ⟨⟨hp.1, by omega⟩, hlow j hp.2.1 hl⟩) h4.len (fun i t1 c1 hik ht1 hc1 => ?_) hk hvn (fun e => by have := (h8 b e).1; omega) (by omega) (fun j hp => hp) (by
      obtain ⟨a2, c2, e2, s1, s2, _⟩ := hv.shape
      simp at e2
      obtain ⟨rfl, rfl⟩ := e2
      refine ⟨s1, s2, hv.ints3 hi fun g e => ?_⟩
      rcases hb with hb | hb
      · rw [hb] at e; exact ⟨by have := (hown g e).1; omega, (hown g e).2.2⟩
      · rw [hb] at e; simp at e; subst e; exact ⟨by omega, by omega⟩)
  · obtain ⟨c2, hc2, a2, n2, e2, p1, p2, p3, p4⟩ := h4.at ht1
    rw [hc1] at hc2
    simp at hc2
    subst hc2
    have hdis : ∀ g, (Value.slice a2 t1.length n2).ownBlock = some g → (Value.slice a (nx[k]).length n).ownBlock ≠ some g := fun g e e' => by
      have hil := (List.getElem?_eq_some_iff.1 hc1)
      have hkl := (List.getElem?_eq_some_iff.1 hc0)
      obtain ⟨i1, i2⟩ := hil
      obtain ⟨k1, k2⟩ := hkl
      rw [List.pairwise_iff_getElem] at h5
      rcases Nat.lt_or_gt_of_ne hik with hlt | hlt
      · have := h5 i k i1 k1 hlt g (by rw [i2, e2]; simpa using e)
        rw [k2, e0] at this
        exact this (by simpa using e')
      · have := h5 k i k1 i1 hlt g (by rw [k2, e0]; simpa using e')
        rw [i2, e2] at this
        exact this (by simpa using e)
    exact ⟨a2, n2, e2, RN.own (p1.keep fun g e _ hl => hfr g hl (hdis g e)) p2 p3 fun g e => ⟨by have := (p1.blk g e).1; omega, fun e' => p4 g e (by rw [hvn, e'])⟩⟩
theorem COwn.ownAt {L N O k b : Nat} {vs vn v : Value} {sts : List S2} {nx : List (List Int)} {W : World} (h : COwn L N O vs vn ⟨sts, nx⟩ W) (hk : k < nx.length) (hvn : vn.ownBlock = some b) (hc : W.cell? ⟨b, k, none⟩ = some v) : OwnI N v nx[k] W ∧ (∀ i, i ∈ nx[k] → i64 i) ∧ nx[k].length ≤ 1000 ∧ N ≤ b ∧ ∀ g, v.ownBlock = some g → g ≠ b := by
  obtain ⟨cs, cn, h1, h2, h3, h4, h5, h6, h7, h8⟩ := h
  have hvb := h2.blk b hvn
  obtain ⟨c0, hc0, a0, n0, e0, o1, o2, o3, o4⟩ := h4.at (List.getElem?_eq_getElem hk)
  have hcell : W.cell? ⟨b, k, none⟩ = c0[0]? := by
    obtain ⟨bv, dv, rfl, q1, q2, q3⟩ := h2.shape
    rcases q3 with q3 | ⟨b', rfl, r1, r2, r3, r4⟩
    · rw [q3] at hc0; simp at hc0
    · simp [Value.ownBlock] at hvn
      subst hvn
      have := r3 k 0 c0 hc0 (by omega)
      rw [Nat.mul_one, Nat.add_zero] at this
      exact this
  rw [e0, hc] at hcell
  simp at hcell
  subst hcell
  exact ⟨o1, o2, o3, hvb.1, fun g e e' => o4 g e (by rw [hvn, e'])⟩
/-- a state's values stored over -/
theorem GOwn.setVals {L O k b n : Nat} {x : Option Nat} {vs vn : Value} {sts : List S2} {nx : List (List Int)} {t : List Int} {a : Option Addr} {W : World} (h : GOwn L O x vs vn ⟨sts, nx⟩ W) (hk : k < sts.length) (hvs : vs.ownBlock = some b) (hr : RN (pX L O x vs vn) W t a n) : GrIn (fun b => L ≤ b) (W.setCell ⟨b, k * 2 + 1, none⟩ (.slice a t.length n)) ⟨sts.set k ⟨sts[k].locs, t⟩, nx⟩ (.agg #[vs, vn]) := by
  obtain ⟨cs, cn, h1, h2, h3, h4, h5, h6⟩ := h
  have hne : ∀ j, j ≠ b → (W.setCell ⟨b, k * 2 + 1, none⟩ (.slice a t.length n)).heap[j]? = W.heap[j]? := fun j hj => Below.heap_setCell _ _ _ _ hj
  have hsz : W.heap.size ≤ (W.setCell ⟨b, k * 2 + 1, none⟩ (.slice a t.length n)).heap.size := by simp
  have hP : ∀ j, pX L O x vs vn j → L ≤ j ∧ j ≠ b := fun j hp => ⟨hp.1, fun e => hp.2.2.2.1 (by rw [hvs, e])⟩
  have hvn : vn.ownBlock ≠ some b := (h5 b hvs).2.2
  clear h5 h6
  generalize pX L O x vs vn = P at *
  have hf : ∀ j, P j → j < W.heap.size → L ≤ j ∧ (W.setCell ⟨b, k * 2 + 1, none⟩ (.slice a t.length n)).heap[j]? = W.heap[j]? := fun j hp _ => ⟨(hP j hp).1, hne j (hP j hp).2⟩
  have l1 := h3.len
  have l2 := h4.len
  have h2' := h2.keep (w' := W.setCell ⟨b, k * 2 + 1, none⟩ (.slice a t.length n)) fun j e _ _ => hne j (fun e' => hvn (by rw [e, e']))
  obtain ⟨av, cv, rfl, p1, p2, p3⟩ := h1.shape
  obtain ⟨bv, dv, rfl, q1, q2, _⟩ := h2.shape
  have hb2 := h2.blk
  rw [l1] at p1 ⊢
  rw [l2] at q1 h2' hb2 ⊢
  refine ⟨av, cv, bv, dv, by simp, by simpa using p1, p2, ?_, q1, q2, rows_of h2' (h4.mono fun t c h => h.frame hsz (fun j hp hl => hf j hp hl)) (fun j hj => by subst hj; exact (hb2 j rfl).1)⟩
  rcases p3 with p3 | ⟨b', rfl, r1, r2, r3, r4⟩
  · rw [p3] at l1; simp at l1; omega
  simp [Value.ownBlock] at hvs
  subst hvs
  refine .inr ⟨b', 0, rfl, r1, by simpa using r2, fun i t' ht' => ?_⟩
  have hi : i < sts.length := by have := (List.getElem?_eq_some_iff.1 ht').1; simpa using this
  obtain ⟨c', hc', a1, n1, a2, n2, e, s1, s2⟩ := h3.at (List.getElem?_eq_getElem hi)
  have hc := fun j hj => r3 i j c' hc' hj
  rw [e] at hc
  rw [Nat.zero_add]
  by_cases hik : i = k
  · subst hik
    rw [List.getElem?_set_self hk, Option.some.injEq] at ht'
    subst ht'
    refine ⟨a1, n1, a, n, ⟨by rw [World.cell?_setCell_other _ _ _ _ (by simp)]; exact hc 0 (by omega), World.cell?_setCell_same _ _ _ (hc 1 (by omega))⟩, ⟨a1, n1, rfl, s1.1, s1.2.1, ints_frame s1.2.2.1 hsz fun j hp hl => hf j hp hl⟩, ⟨a, n, rfl, hr.1, hr.2.1, ints_frame hr.2.2.1 hsz fun j hp hl => hf j hp hl⟩⟩
  · rw [List.getElem?_set_ne (Ne.symm hik), List.getElem?_eq_getElem hi, Option.some.injEq] at ht'
    subst ht'
    refine ⟨a1, n1, a2, n2, ⟨by rw [World.cell?_setCell_other _ _ _ _ (by first | (simp; done) | (simp; omega) | omega)]; exact hc 0 (by omega), by rw [World.cell?_setCell_other _ _ _ _ (by first | (simp; done) | (simp; omega) | omega)]; exact hc 1 (by omega)⟩, ⟨a1, n1, rfl, s1.1, s1.2.1, ints_frame s1.2.2.1 hsz fun j hp hl => hf j hp hl⟩, ⟨a2, n2, rfl, s2.1, s2.2.1, ints_frame s2.2.2.1 hsz fun j hp hl => hf j hp hl⟩⟩
/-- one row more, at the operation -/
theorem wp_push_cp {ops : Array Oper} {rest : List Oper} {o : Oper} {a : Act} {Q : Exit → Act → World → Prop} {w : World} (hgd : o.guard = none) (s y : Operand)
    (ho : o.op = .call { callee := .builtin .append, args := #[s, y], argTypes := #[24, 24] }) (L N O B : Nat) (vs vn v : Value) (sts : List S2) (nx : List (List Int)) (t : List Int) (b c : Nat) (hs : a.eval s = vn) (hy : a.eval y = .slice (some ⟨b, 0, none⟩) 1 c)
    (W0 : World) (h : COwn L N O vs vn ⟨sts, nx⟩ W0) (hN : N ≤ W0.heap.size) (hb : Below W0.heap.size W0 w) (hv : OwnI B v t w) (hB : W0.heap.size ≤ B) (hi : ∀ n, n ∈ t → i64 n) (ht : t.length ≤ 1000) (c0 : w.cell? ⟨b, 0, none⟩ = some v) (hl : nx.length ≤ 1000)
    (k : ∀ v' w', COwn L N O vs v' ⟨sts, nx ++ [t]⟩ w' → w.grownBy w' vn.ownBlock → (∀ b, vn.ownBlock = some b → N ≤ b) → wpList Try.prog ops Q rest (a.put o.dst v') w') :
    wpList Try.prog ops Q (o :: rest) a w := by
  obtain ⟨cs, cn, h1, h2, h3, h4, h5, h6, h7, h8⟩ := h
  have hvb := h2.blk
  obtain ⟨a1, n1, rfl, _⟩ := hv.shape
  refine wp_app_ro hgd s y ho N vn cn [.slice a1 t.length n1] b c hs hy (h2.next hb) (Nat.le_trans hN hb.size) (fun j u hj => ?_) rfl (fun u hu => ?_) (by rw [h4.len]; exact Nat.le_trans hl (by omega)) fun v' w' i1 i2 i3 => k v' w' (COwn.app h1 h2 h3 h4 h5 h6 h7 h8 hN hb hv hB hi ht i1 i2 i3) i2 fun b e => (hvb b e).1
  · match j, hj with
    | 0, hj => simp at hj; subst hj; exact c0
    | j + 1, hj => simp at hj
  · simp at hu
    subst hu; rfl
/-- states in the variable of a copy -/
def CG (W0 : World) (n O : Nat) (v : Value) (sts : List S2) (wx : World) : Prop := GOwn W0.heap.size O none v (.slice none 0 0) ⟨sts, []⟩ wx ∧ BoxP wx O v (.slice none 0 0) ∧ Below W0.heap.size W0 wx ∧ W0.heap.size ≤ O ∧ sts.length = n
theorem CG.mk {W0 w2 w3 : World} {n L1 O O1 : Nat} {v a b : Value} {sts : List S2} (h : GOwn L1 O1 none v (.slice none 0 0) ⟨sts, []⟩ w2) (hx : O < L1 ∨ w2.heap.size ≤ O) (hb : Below w2.heap.size w2 w3) (hbox : BoxP w3 O a b) (hW : Below W0.heap.size W0 w3) (hL : W0.heap.size ≤ L1) (hO : W0.heap.size ≤ O) (hn : sts.length = n) :
    CG W0 n O v sts ((w3.setCell ⟨O, 0, none⟩ v).setCell ⟨O, 1, none⟩ (.slice none 0 0)) := by
  have h1 : GOwn W0.heap.size O none v (.slice none 0 0) ⟨sts, []⟩ w2 := h.re hL fun b h1 _ _ h4 => ⟨by omega, by simp⟩
  refine ⟨(h1.next hb).keep (by simp) fun b _ hne _ _ => (Below.heap_setCell _ _ _ _ hne).trans (Below.heap_setCell _ _ _ _ hne), boxp_set1 (boxp_set0 hbox _) _, below_set2 hW hO _ _, hO, hn⟩
end Gr
end Go.Proofs.Ytfemikebklmlpaa
namespace Go.Proofs.Ytfemikebklmlpaa
set_option linter.unusedVariables false
set_option linter.unusedSimpArgs false
namespace Bfs

/-- the queue, each node's predecessor (-2: not seen, -1: the first), its depth -/
structure St where
  q : List Nat
  par : Nat → Int
  d : Nat → Nat
def push (u : Nat) (S : St) (n : Nat) : St :=
  if S.par n = -2 then ⟨S.q ++ [n], fun m => if m = n then (u : Int) else S.par m, fun m => if m = n then S.d u + 1 else S.d m⟩ else S
def pushes (u : Nat) (S : St) (l : List Nat) : St := l.foldl (push u) S
def st0 (s : Nat) : St := ⟨[s], fun m => if m = s then -1 else -2, fun _ => 1⟩
/-- node number i is opened -/
def opn (adj : Nat → List Nat) (S : St) (i : Nat) : St := match S.q[i]? with
  | none => S
  | some u => pushes u S (adj u)
def bfs (adj : Nat → List Nat) (s : Nat) : Nat → St
  | 0 => st0 s
  | i + 1 => opn adj (bfs adj s i) i

/-- what holds while node number i is being opened (its neighbours in l are done), or before (l empty) -/
structure Inv (N : Nat) (adj : Nat → List Nat) (s : Nat) (S : St) (i : Nat) (l : List Nat) : Prop where
  nd : S.q.Nodup
  lt : ∀ (m : Nat), m ∈ S.q → m < N
  seen : ∀ (m : Nat), m ∈ S.q ↔ S.par m ≠ -2
  fst : S.q[0]? = some s
  root : S.par s = -1 ∧ S.d s = 1
  par : ∀ (m n : Nat), 0 < m → S.q[m]? = some n → ∃ (j u : Nat), j < m ∧ j ≤ i ∧ (l = [] → j < i) ∧ S.q[j]? = some u ∧ S.par n = u ∧ n ∈ adj u ∧ S.d n = S.d u + 1
  mono : ∀ (a b x y : Nat), a ≤ b → S.q[a]? = some x → S.q[b]? = some y → S.d x ≤ S.d y
  top : ∀ (u : Nat), S.q[i]? = some u → ∀ (n : Nat), n ∈ S.q → S.d n ≤ S.d u + 1
  done : ∀ (j u : Nat), j < i → S.q[j]? = some u → ∀ (n : Nat), n ∈ adj u → n ∈ S.q ∧ S.d n ≤ S.d u + 1
  now : ∀ (u : Nat), S.q[i]? = some u → ∀ (n : Nat), n ∈ l → n ∈ S.q ∧ S.d n ≤ S.d u + 1

theorem inv0 {N s : Nat} (adj : Nat → List Nat) (h : s < N) : Inv N adj s (st0 s) 0 [] where
  nd := by simp [st0]
  lt m hm := by simp [st0] at hm; omega
  seen m := by
    simp only [st0, List.mem_singleton]
    split <;> simp_all
  fst := rfl
  root := by simp [st0]
  par m n hm h := by
    have := (List.getElem?_eq_some_iff.1 h).1
    simp [st0] at this; omega
  mono a b x y _ _ _ := by simp [st0]
  top u _ n _ := by simp [st0]
  done j u hj := by omega
  now u _ n hn := by cases hn

theorem q_at {S : St} {i u : Nat} (h : S.q[i]? = some u) : u ∈ S.q := List.mem_of_getElem? h
theorem push_old {S : St} {u n : Nat} (h : S.par n ≠ -2) : push u S n = S := by unfold push; rw [if_neg h]
theorem push_new {S : St} {u n : Nat} (h : S.par n = -2) : push u S n = ⟨S.q ++ [n], fun m => if m = n then (u : Int) else S.par m, fun m => if m = n then S.d u + 1 else S.d m⟩ := by unfold push; rw [if_pos h]

theorem Inv.push {N s : Nat} {adj : Nat → List Nat} {S : St} {i u n : Nat} {l : List Nat} (h : Inv N adj s S i l) (hu : S.q[i]? = some u) (hn : n ∈ adj u) (hN : n < N) : Inv N adj s (push u S n) i (l ++ [n]) := by
  by_cases e : S.par n = -2
  · rw [push_new e]
    have hnq : n ∉ S.q := fun hh => (h.seen n).1 hh e
    have ne : ∀ m, m ∈ S.q → m ≠ n := fun m hm e2 => hnq (e2 ▸ hm)
    have hs : s ∈ S.q := List.mem_of_getElem? h.fst
    have hil : i < S.q.length := (List.getElem?_eq_some_iff.1 hu).1
    have at_ : ∀ a x, (S.q ++ [n])[a]? = some x → (S.q[a]? = some x ∧ a < S.q.length) ∨ (x = n ∧ a = S.q.length) := fun a x hx => by
      rw [List.getElem?_append] at hx
      split at hx
      · exact .inl ⟨hx, by assumption⟩
      · right
        have := (List.getElem?_eq_some_iff.1 hx).1
        simp at this
        have e3 : a - S.q.length = 0 := by omega
        rw [e3] at hx
        simp at hx
        exact ⟨hx.symm, by omega⟩
    have up : ∀ a x, S.q[a]? = some x → (S.q ++ [n])[a]? = some x := fun a x hx => by
      rw [List.getElem?_append_left (List.getElem?_eq_some_iff.1 hx).1]; exact hx
    have hun := ne u (q_at hu)
    refine ⟨?_, ?_, ?_, ?_, ?_, ?_, ?_, ?_, ?_, ?_⟩
    · rw [List.nodup_append]
      exact ⟨h.nd, by simp, fun a ha b hb => by simp at hb; subst hb; exact ne a ha⟩
    · intro m hm
      rcases List.mem_append.1 hm with hm | hm
      · exact h.lt m hm
      · simp at hm; omega
    · intro m
      show m ∈ S.q ++ [n] ↔ (if m = n then (u : Int) else S.par m) ≠ -2
      rw [List.mem_append, List.mem_singleton]
      split
      · rename_i e2
        exact ⟨fun _ => by omega, fun _ => .inr e2⟩
      · rename_i e2
        rw [← h.seen m]
        exact ⟨fun hh => hh.resolve_right e2, .inl⟩
    · exact up 0 s h.fst
    · show (if s = n then (u : Int) else S.par s) = -1 ∧ (if s = n then S.d u + 1 else S.d s) = 1
      rw [if_neg (ne s hs), if_neg (ne s hs)]
      exact h.root
    · intro m x hm hx
      show ∃ j v, j < m ∧ j ≤ i ∧ (l ++ [n] = [] → j < i) ∧ (S.q ++ [n])[j]? = some v ∧ (if x = n then (u : Int) else S.par x) = v ∧ x ∈ adj v ∧ (if x = n then S.d u + 1 else S.d x) = (if v = n then S.d u + 1 else S.d v) + 1
      rcases at_ m x hx with ⟨hx, hl⟩ | ⟨rfl, rfl⟩
      · obtain ⟨j, v, h1, h2, h3, h4, h5, h6, h7⟩ := h.par m x hm hx
        refine ⟨j, v, h1, h2, fun e => by simp at e, up j v h4, ?_, h6, ?_⟩
        · rw [if_neg (ne x (q_at hx))]; exact h5
        · rw [if_neg (ne x (q_at hx)), if_neg (ne v (q_at h4))]; exact h7
      · exact ⟨i, u, hil, Nat.le_refl _, fun e => by simp at e, up i u hu, by rw [if_pos rfl], hn, by rw [if_pos rfl, if_neg hun]⟩
    · intro a b x y hab hx hy
      show (if x = n then S.d u + 1 else S.d x) ≤ (if y = n then S.d u + 1 else S.d y)
      rcases at_ a x hx with ⟨hx2, hl⟩ | ⟨rfl, rfl⟩
      · rw [if_neg (ne x (q_at hx2))]
        rcases at_ b y hy with ⟨hy2, _⟩ | ⟨rfl, rfl⟩
        · rw [if_neg (ne y (q_at hy2))]; exact h.mono a b x y hab hx2 hy2
        · rw [if_pos rfl]; exact h.top u hu x (q_at hx2)
      · rcases at_ b y hy with ⟨hy, hl⟩ | ⟨rfl, _⟩
        · omega
        · exact Nat.le_refl _
    · intro v hv m hm
      show (if m = n then S.d u + 1 else S.d m) ≤ (if v = n then S.d u + 1 else S.d v) + 1
      have hv2 : v = u := by
        have := up i u hu
        rw [show (S.q ++ [n])[i]? = some v from hv] at this
        exact Option.some.inj this
      subst hv2
      rw [if_neg hun]
      split
      · exact Nat.le_refl _
      · rename_i e2
        rcases List.mem_append.1 hm with hm | hm
        · exact h.top v hu m hm
        · simp at hm; exact absurd hm e2
    · intro j v hj hv m hm
      show m ∈ S.q ++ [n] ∧ (if m = n then S.d u + 1 else S.d m) ≤ (if v = n then S.d u + 1 else S.d v) + 1
      rcases at_ j v hv with ⟨hv, _⟩ | ⟨rfl, rfl⟩
      · obtain ⟨h1, h2⟩ := h.done j v hj hv m hm
        refine ⟨List.mem_append.2 (.inl h1), ?_⟩
        rw [if_neg (ne m h1), if_neg (ne v (q_at hv))]; exact h2
      · omega
    · intro v hv m hm
      show m ∈ S.q ++ [n] ∧ (if m = n then S.d u + 1 else S.d m) ≤ (if v = n then S.d u + 1 else S.d v) + 1
      have hv2 : v = u := by
        have := up i u hu
        rw [show (S.q ++ [n])[i]? = some v from hv] at this
        exact Option.some.inj this
      subst hv2
      rw [if_neg hun]
      rcases List.mem_append.1 hm with hm | hm
      · obtain ⟨h1, h2⟩ := h.now v hu m hm
        refine ⟨List.mem_append.2 (.inl h1), ?_⟩
        rw [if_neg (ne m h1)]; exact h2
      · simp at hm
        subst hm
        exact ⟨by simp, by rw [if_pos rfl]; exact Nat.le_refl _⟩
  · rw [push_old e]
    have hnq : n ∈ S.q := (h.seen n).2 e
    refine { h with par := fun m x hm hx => ?_, now := fun v hv m hm => ?_ }
    · obtain ⟨j, v, h1, h2, h3, h4⟩ := h.par m x hm hx
      exact ⟨j, v, h1, h2, fun e => by simp at e, h4⟩
    · rcases List.mem_append.1 hm with hm | hm
      · exact h.now v hv m hm
      · simp at hm; subst hm
        exact ⟨hnq, h.top v hv m hnq⟩
theorem Inv.pushes {N s : Nat} {adj : Nat → List Nat} {i u : Nat} : ∀ (l r : List Nat) (S : St), Inv N adj s S i r → S.q[i]? = some u → (∀ n, n ∈ l → n ∈ adj u ∧ n < N) → Inv N adj s (pushes u S l) i (r ++ l) ∧ (Bfs.pushes u S l).q[i]? = some u
  | [], r, S, h, hu, _ => by rw [List.append_nil]; exact ⟨h, hu⟩
  | n :: l, r, S, h, hu, hl => by
    have hn := hl n (by simp)
    have h2 := h.push hu hn.1 hn.2
    have hu2 : (Bfs.push u S n).q[i]? = some u := by
      unfold Bfs.push
      split
      · show (S.q ++ [n])[i]? = some u
        rw [List.getElem?_append_left (List.getElem?_eq_some_iff.1 hu).1]; exact hu
      · exact hu
    have h3 := Inv.pushes l (r ++ [n]) _ h2 hu2 fun m hm => hl m (by simp [hm])
    rw [List.append_assoc] at h3
    exact h3
theorem Inv.open {N s : Nat} {adj : Nat → List Nat} {S : St} {i : Nat} (h : Inv N adj s S i []) (hA : ∀ u, u ∈ S.q → ∀ n, n ∈ adj u → n < N) (hi : i < S.q.length) : Inv N adj s (opn adj S i) (i + 1) [] := by
  have hu : S.q[i]? = some S.q[i] := List.getElem?_eq_getElem hi
  generalize S.q[i] = u at hu
  have hop : opn adj S i = Bfs.pushes u S (adj u) := by unfold opn; rw [hu]
  rw [hop]
  obtain ⟨k, hk⟩ := Inv.pushes (adj u) [] S h hu fun n hn => ⟨hn, hA u (q_at hu) n hn⟩
  rw [List.nil_append] at k
  generalize Bfs.pushes u S (adj u) = S' at *
  refine { k with par := fun m n hm hn => ?_, top := fun v hv n hn => ?_, done := fun j v hj hv n hn => ?_, now := fun v hv n hn => by cases hn }
  · obtain ⟨j, v, h1, h2, _, h4⟩ := k.par m n hm hn
    exact ⟨j, v, h1, by omega, fun _ => by omega, h4⟩
  · exact Nat.le_trans (k.top u hk n hn) (Nat.add_le_add_right (k.mono i (i + 1) u v (by omega) hk hv) 1)
  · by_cases e : j = i
    · subst e
      rw [hk] at hv
      obtain rfl := Option.some.inj hv
      exact k.now u hk n hn
    · exact k.done j v (by omega) hv n hn
theorem Inv.len {N s : Nat} {adj : Nat → List Nat} {S : St} {i : Nat} {l : List Nat} (h : Inv N adj s S i l) : S.q.length ≤ N := by
  have := (List.Nodup.length_le_of_subset h.nd (l₂ := List.range N) fun m hm => List.mem_range.2 (h.lt m hm))
  simpa using this

/-- nothing that is there turns -/
def Ext (S T : St) : Prop := (∃ r, T.q = S.q ++ r) ∧ ∀ m, m ∈ S.q → T.par m = S.par m ∧ T.d m = S.d m
theorem Ext.refl (S : St) : Ext S S := ⟨⟨[], by simp⟩, fun _ _ => ⟨rfl, rfl⟩⟩
theorem Ext.trans {S T U : St} (h : Ext S T) (k : Ext T U) : Ext S U := by
  obtain ⟨⟨r, h1⟩, h2⟩ := h
  obtain ⟨⟨r', k1⟩, k2⟩ := k
  refine ⟨⟨r ++ r', by rw [k1, h1, List.append_assoc]⟩, fun m hm => ?_⟩
  have hm2 : m ∈ T.q := by rw [h1]; exact List.mem_append.2 (.inl hm)
  exact ⟨(k2 m hm2).1.trans (h2 m hm).1, (k2 m hm2).2.trans (h2 m hm).2⟩
theorem ext_push {S : St} (hs : ∀ m, m ∈ S.q → S.par m ≠ -2) (u n : Nat) : Ext S (push u S n) := by
  by_cases e : S.par n = -2
  · rw [push_new e]
    refine ⟨⟨[n], rfl⟩, fun m hm => ?_⟩
    have : m ≠ n := fun e2 => hs m hm (e2 ▸ e)
    show (if m = n then (u : Int) else S.par m) = _ ∧ (if m = n then S.d u + 1 else S.d m) = _
    rw [if_neg this, if_neg this]; exact ⟨rfl, rfl⟩
  · rw [push_old e]; exact Ext.refl _
theorem seen_push {S : St} (hs : ∀ m, m ∈ S.q → S.par m ≠ -2) (u n : Nat) : ∀ m, m ∈ (push u S n).q → (push u S n).par m ≠ -2 := by
  by_cases e : S.par n = -2
  · rw [push_new e]
    intro m hm
    show (if m = n then (u : Int) else S.par m) ≠ -2
    split
    · omega
    · rename_i e2
      rcases List.mem_append.1 hm with hm | hm
      · exact hs m hm
      · simp at hm; exact absurd hm e2
  · rw [push_old e]; exact hs
theorem ext_pushes (u : Nat) : ∀ (l : List Nat) (S : St), (∀ m, m ∈ S.q → S.par m ≠ -2) → Ext S (pushes u S l)
  | [], S, _ => Ext.refl _
  | n :: l, S, hs => (ext_push hs u n).trans (ext_pushes u l _ (seen_push hs u n))
theorem ext_opn {S : St} (adj : Nat → List Nat) (i : Nat) (hs : ∀ m, m ∈ S.q → S.par m ≠ -2) : Ext S (opn adj S i) := by
  unfold opn
  split
  · exact Ext.refl _
  · exact ext_pushes _ _ _ hs
theorem Ext.at {S T : St} (h : Ext S T) {i u : Nat} (hu : S.q[i]? = some u) : T.q[i]? = some u := by
  obtain ⟨⟨r, h1⟩, _⟩ := h
  rw [h1, List.getElem?_append_left (List.getElem?_eq_some_iff.1 hu).1]; exact hu

section
variable {N s : Nat} {adj : Nat → List Nat}
theorem bfs_inv (hs : s < N) (hA : ∀ u, u < N → ∀ n, n ∈ adj u → n < N) : ∀ i, i ≤ (bfs adj s i).q.length → Inv N adj s (bfs adj s i) i []
  | 0, _ => inv0 adj hs
  | i + 1, h => by
    rw [bfs] at h ⊢
    by_cases e : i < (bfs adj s i).q.length
    · exact (bfs_inv hs hA i (Nat.le_of_lt e)).open (fun u hu => hA u ((bfs_inv hs hA i (Nat.le_of_lt e)).lt u hu)) e
    · have : (bfs adj s i).q[i]? = none := List.getElem?_eq_none (by omega)
      have ho : opn adj (bfs adj s i) i = bfs adj s i := by unfold opn; rw [this]
      rw [ho] at h
      omega
theorem bfs_done {i : Nat} (h : (bfs adj s i).q.length ≤ i) : ∀ j, i ≤ j → bfs adj s j = bfs adj s i := by
  intro j hj
  obtain ⟨k, rfl⟩ : ∃ k, j = i + k := ⟨j - i, by omega⟩
  clear hj
  induction k with
  | zero => rfl
  | succ k ih =>
    rw [show i + (k + 1) = i + k + 1 by omega, bfs, ih]
    have : (bfs adj s i).q[i + k]? = none := List.getElem?_eq_none (by omega)
    unfold opn; rw [this]
theorem bfs_ext (hs : s < N) (hA : ∀ u, u < N → ∀ n, n ∈ adj u → n < N) : ∀ (i k : Nat), Ext (bfs adj s i) (bfs adj s (i + k))
  | i, 0 => Ext.refl _
  | i, k + 1 => by
    refine (bfs_ext hs hA i k).trans ?_
    rw [show i + (k + 1) = i + k + 1 by omega, bfs]
    by_cases e : i + k ≤ (bfs adj s (i + k)).q.length
    · exact ext_opn _ _ fun m hm => ((bfs_inv hs hA _ e).seen m).1 hm
    · have : (bfs adj s (i + k)).q[i + k]? = none := List.getElem?_eq_none (by omega)
      unfold opn; rw [this]; exact Ext.refl _
/-- when the whole queue is done -/
theorem bfs_end (hs : s < N) (hA : ∀ u, u < N → ∀ n, n ∈ adj u → n < N) : ∃ i, (bfs adj s i).q.length = i ∧ i ≤ N := by
  have key : ∀ k, (∃ i, (bfs adj s i).q.length = i ∧ i ≤ N) ∨ k ≤ (bfs adj s k).q.length := by
    intro k
    induction k with
    | zero => exact .inr (Nat.zero_le _)
    | succ k ih =>
      rcases ih with h | h
      · exact .inl h
      have hI := bfs_inv hs hA k h
      by_cases e : (bfs adj s k).q.length = k
      · exact .inl ⟨k, e, by have := hI.len; omega⟩
      · right
        obtain ⟨⟨r, hr⟩, _⟩ := bfs_ext hs hA k 1
        rw [hr, List.length_append]; omega
  rcases key (N + 1) with h | h
  · exact h
  · have := (bfs_inv hs hA _ h).len; omega
end

/-- the way back to the first, read forward -/
inductive Chain (par : Nat → Int) : Nat → List Nat → Prop
  | root {n : Nat} (h : par n = -1) : Chain par n [n]
  | step {n u : Nat} {l : List Nat} (h : par n = (u : Int)) (k : Chain par u l) : Chain par n (l ++ [n])
theorem Chain.det {par : Nat → Int} {n : Nat} {l m : List Nat} (h : Chain par n l) (k : Chain par n m) : l = m := by
  induction h generalizing m with
  | root h =>
    cases k with
    | root => rfl
    | step h2 _ => omega
  | step h k1 ih =>
    cases k with
    | root h2 => omega
    | step h2 k2 =>
      have : (_ : Nat) = _ := Int.ofNat_inj.1 (h.symm.trans h2)
      subst this
      rw [ih k2]
theorem Chain.pos {par : Nat → Int} {n : Nat} {l : List Nat} (h : Chain par n l) : 0 < l.length := by cases h <;> simp
theorem Inv.chain {N s : Nat} {adj : Nat → List Nat} {S : St} {i : Nat} {r : List Nat} (h : Inv N adj s S i r) : ∀ (m n : Nat), S.q[m]? = some n → ∃ l, Chain S.par n l ∧ l.length = S.d n ∧ l.length ≤ m + 1 ∧ ∀ x, x ∈ l → x ∈ S.q := by
  intro m
  induction m using Nat.strongRecOn with
  | ind m ih =>
    intro n hn
    by_cases e : m = 0
    · subst e
      rw [h.fst] at hn
      obtain rfl := Option.some.inj hn
      exact ⟨[s], .root h.root.1, by rw [h.root.2]; rfl, by simp, fun x hx => by simp at hx; subst hx; exact List.mem_of_getElem? h.fst⟩
    · obtain ⟨j, u, h1, h2, h3, h4, h5, h6, h7⟩ := h.par m n (by omega) hn
      obtain ⟨l, k1, k2, k3, k4⟩ := ih j h1 u h4
      refine ⟨l ++ [n], .step h5 k1, by simp [k2, h7], by simp; omega, fun x hx => ?_⟩
      rcases List.mem_append.1 hx with hx | hx
      · exact k4 x hx
      · simp at hx; subst hx; exact List.mem_of_getElem? hn
theorem Chain.ext {par par' : Nat → Int} {n : Nat} {l : List Nat} (h : Chain par n l) (he : ∀ x, x ∈ l → par' x = par x) : Chain par' n l := by
  induction h with
  | root h => exact .root (by rw [he _ (by simp)]; exact h)
  | step h k ih => exact .step (by rw [he _ (by simp)]; exact h) (ih fun x hx => he x (by simp [hx]))
theorem Chain.last {par : Nat → Int} {n : Nat} {l : List Nat} (h : Chain par n l) : l.getLast? = some n := by cases h <;> simp
end Bfs
end Go.Proofs.Ytfemikebklmlpaa
