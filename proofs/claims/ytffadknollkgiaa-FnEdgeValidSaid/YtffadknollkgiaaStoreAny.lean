/- A store of one cell anywhere: what was readable as a tree stays readable as some tree of the same top. Conditions: those of each theorem. -/
import Derived.Test.YtffadknollkgiaaSysSt
namespace Go.Proofs.Ytffadknollkgiaa
open Go.RowKit
set_option linter.unusedVariables false
set_option linter.unusedSimpArgs false

/-- the store at a of u: an int for an int, or a readable row of nodes for a slice; new nodes count less than C -/
def StOk (P : Nat → Prop) (w : World) (a : Addr) (u : Value) (C : Int) : Prop := 1 ≤ C ∧
  ((∃ k n, w.cell? a = some (.int .i64 k) ∧ u = .int .i64 n ∧ i64 n) ∨
   (∃ A l c A' c' kids, w.cell? a = some (.slice A l c) ∧ u = .slice A' (kids : List Tr).length c' ∧ kids.length ≤ c' ∧ c' ≤ maxLen ∧ TrsIn P (w.setCell a u) kids A' ∧ 1 + nodesL kids ≤ C))
theorem StOk.int {P : Nat → Prop} {w : World} {a : Addr} {u : Value} {C : Int} (h : StOk P w a u C) {p : Addr} {k : Int} (hc : w.cell? p = some (.int .i64 k)) (hk : i64 k) : ∃ k', (w.setCell a u).cell? p = some (.int .i64 k') ∧ i64 k' := by
  by_cases e : a = p
  · subst e
    rcases h.2 with ⟨_, n, h1, rfl, h3⟩ | ⟨_, _, _, _, _, _, h1, _⟩
    · exact ⟨n, World.cell?_setCell_same _ _ _ hc, h3⟩
    · rw [hc] at h1; simp at h1
  · exact ⟨k, by rw [World.cell?_setCell_other _ _ _ _ e]; exact hc, hk⟩
theorem StOk.row {P : Nat → Prop} {w : World} {a : Addr} {u : Value} {C : Int} (h : StOk P w a u C) {p : Addr} {A : Option Addr} {c : Nat} {kids kids' : List Tr} (hc : w.cell? p = some (.slice A kids.length c)) (h1 : kids.length ≤ c) (h2 : c ≤ maxLen) (h3 : TrsIn P (w.setCell a u) kids' A) (h4 : kids'.length = kids.length) (h5 : nodesL kids' ≤ C * nodesL kids) :
    ∃ A' c' ks, (w.setCell a u).cell? p = some (.slice A' (ks : List Tr).length c') ∧ ks.length ≤ c' ∧ c' ≤ maxLen ∧ TrsIn P (w.setCell a u) ks A' ∧ 1 + nodesL ks ≤ C * (1 + nodesL kids) := by
  have hn := nodesL_pos kids
  have hC := h.1
  have hm : 0 ≤ C * nodesL kids := Int.mul_nonneg (by omega) (by omega)
  by_cases e : a = p
  · subst e
    rcases h.2 with ⟨_, _, i1, _⟩ | ⟨_, _, _, A', c', ks, _, rfl, i3, i4, i5, i6⟩
    · rw [hc] at i1; simp at i1
    · exact ⟨A', c', ks, World.cell?_setCell_same _ _ _ hc, i3, i4, i5, by rw [Int.mul_add]; omega⟩
  · exact ⟨A, c, kids', by rw [World.cell?_setCell_other _ _ _ _ e, h4]; exact hc, by omega, h2, h3, by rw [Int.mul_add]; omega⟩

theorem StOk.both {P : Nat → Prop} {w : World} {a : Addr} {u : Value} {C : Int} (h : StOk P w a u C) :
    (∀ t x, TrIn P w t x → ∃ t', TrIn P (w.setCell a u) t' x ∧ t'.kind = t.kind ∧ t'.val = t.val ∧ t'.kids.length = t.kids.length ∧ nodesL t'.kids ≤ C * nodesL t.kids) ∧
    (∀ l A, TrsIn P w l A → ∃ l', TrsIn P (w.setCell a u) l' A ∧ l'.length = l.length ∧ nodesL l' ≤ C * nodesL l) := by
  refine Tr.both (P := fun t => ∀ x, TrIn P w t x → ∃ t', TrIn P (w.setCell a u) t' x ∧ t'.kind = t.kind ∧ t'.val = t.val ∧ t'.kids.length = t.kids.length ∧ nodesL t'.kids ≤ C * nodesL t.kids)
    (Q := fun l => ∀ A, TrsIn P w l A → ∃ l', TrsIn P (w.setCell a u) l' A ∧ l'.length = l.length ∧ nodesL l' ≤ C * nodesL l) ?_ ?_ ?_
  · intro k v kids ih x hx
    rw [TrIn_mk] at hx
    obtain ⟨A, n, c, rfl, h1, h2, h3, h4, h5, h6⟩ := hx
    obtain ⟨l', i1, i2, i3⟩ := ih A h6
    exact ⟨.mk k v l', (TrIn_mk ..).2 ⟨A, n, c, rfl, h1, h2, by omega, h4, h5, i1⟩, rfl, rfl, i2, i3⟩
  · intro A _
    exact ⟨[], by simp [TrsIn_nil], rfl, by simp [nodesL]⟩
  · intro t ts iht ihts A hx
    rw [TrsIn_cons] at hx
    obtain ⟨b, o, c0, c1, c2, rfl, hpb, h0, h1, h2, h3, h4⟩ := hx
    obtain ⟨t', j1, j2, j3, j4, j5⟩ := iht _ h3
    obtain ⟨ts', k1, k2, k3⟩ := ihts _ h4
    obtain ⟨tk, tv, tkids⟩ := t
    rw [TrIn_mk] at h3
    obtain ⟨B, n, c, he, g1, g2, rfl, g4, g5, g6⟩ := h3
    simp only [Value.agg.injEq, Array.mk.injEq, List.cons.injEq, and_true] at he
    obtain ⟨rfl, rfl, rfl⟩ := he
    obtain ⟨sk, sv, skids⟩ := t'
    rw [TrIn_mk] at j1
    obtain ⟨B', n', d', he', _, _, rfl, _, _, g6'⟩ := j1
    simp only [Value.agg.injEq, Array.mk.injEq, List.cons.injEq, and_true, Value.slice.injEq] at he'
    obtain ⟨_, _, rfl, _, rfl⟩ := he'
    obtain ⟨k', m1, m2⟩ := h.int h0 g1
    obtain ⟨v', m3, m4⟩ := h.int h1 g2
    obtain ⟨A', c', ks, m5, m6, m7, m8, m9⟩ := h.row h2 g4 g5 g6' j4 j5
    refine ⟨.mk k' v' ks :: ts', (TrsIn_cons ..).2 ⟨b, o, _, _, _, rfl, hpb, m1, m3, m5, (TrIn_mk ..).2 ⟨A', _, c', rfl, m2, m4, rfl, m6, m7, m8⟩, k1⟩, by simp [k2], ?_⟩
    simp only [nodesL, nodes, Int.mul_add] at m9 ⊢
    omega

/-- for each element one that is related to it -/
theorem choose_all {T : Type} : ∀ (l : List T) (P : Nat → T → T → Prop), (∀ i t, l[i]? = some t → ∃ t', P i t t') → ∃ l' : List T, l'.length = l.length ∧ ∀ i t', l'[i]? = some t' → ∃ t, l[i]? = some t ∧ P i t t'
  | [], P, _ => ⟨[], rfl, by simp⟩
  | t :: ts, P, h => by
    obtain ⟨t', h1⟩ := h 0 t (by simp)
    obtain ⟨ts', h2, h3⟩ := choose_all ts (fun i => P (i + 1)) (fun i u hu => h (i + 1) u (by simpa using hu))
    refine ⟨t' :: ts', by simp [h2], fun i u hu => ?_⟩
    cases i with
    | zero => simp at hu; subst hu; exact ⟨t, by simp, h1⟩
    | succ i => simpa using h3 i u (by simpa using hu)
theorem StOk.ed {P : Nat → Prop} {w : World} {a : Addr} {u : Value} {C : Int} (h : StOk P w a u C) {e : Ed} {b o : Nat} (hx : EdAt P w e b o) : ∃ e', EdAt P (w.setCell a u) e' b o ∧ nodes e'.guard ≤ C * nodes e.guard ∧ nodes e'.val ≤ C * nodes e.val := by
  obtain ⟨A, c, A', c', ⟨h0, h1, h2, h3, h4, h5, h6, h7, h8, h9⟩, ⟨B, n, B', n', he, i1, i2, i3, i4, i5, i6⟩⟩ := hx
  simp only [Value.agg.injEq, Array.mk.injEq, List.cons.injEq, and_true, Value.slice.injEq, true_and] at he
  obtain ⟨⟨rfl, rfl⟩, rfl, rfl⟩ := he
  obtain ⟨src, dst, g, var, v, sync⟩ := e
  obtain ⟨gk, gv, gs⟩ := g
  obtain ⟨vk, vv, vs⟩ := v
  rw [TrIn_mk] at i5 i6
  obtain ⟨_, _, _, e1, p1, p2, rfl, p4, p5, p6⟩ := i5
  obtain ⟨_, _, _, e2, q1, q2, rfl, q4, q5, q6⟩ := i6
  simp only [Tr.kind, Tr.val, Tr.kids, Value.agg.injEq, Array.mk.injEq, List.cons.injEq, and_true, Value.slice.injEq, true_and] at e1 e2 h0 h1 h2 h3 h4 h5 h6 h7 h8 h9
  obtain ⟨rfl, rfl⟩ := e1
  obtain ⟨rfl, rfl⟩ := e2
  obtain ⟨l1, j1, j2, j3⟩ := h.both.2 _ _ p6
  obtain ⟨l2, k1, k2, k3⟩ := h.both.2 _ _ q6
  obtain ⟨s0, m0, n0⟩ := h.int h0 i1
  obtain ⟨s1, m1, n1⟩ := h.int h1 i2
  obtain ⟨s2, m2, n2⟩ := h.int h2 p1
  obtain ⟨s3, m3, n3⟩ := h.int h3 p2
  obtain ⟨s5, m5, n5⟩ := h.int h5 i3
  obtain ⟨s6, m6, n6⟩ := h.int h6 q1
  obtain ⟨s7, m7, n7⟩ := h.int h7 q2
  obtain ⟨s9, m9, n9⟩ := h.int h9 i4
  obtain ⟨A4, c4, t4, r0, r1, r2, r3, r4⟩ := h.row h4 p4 p5 j1 j2 j3
  obtain ⟨A8, c8, t8, u0, u1, u2, u3, u4⟩ := h.row h8 q4 q5 k1 k2 k3
  exact ⟨⟨s0, s1, .mk s2 s3 t4, s5, .mk s6 s7 t8, s9⟩, ⟨A4, c4, A8, c8, ⟨m0, m1, m2, m3, r0, m5, m6, m7, u0, m9⟩, ⟨A4, c4, A8, c8, rfl, n0, n1, n5, n9, (TrIn_mk ..).2 ⟨A4, _, c4, rfl, n2, n3, rfl, r1, r2, r3⟩, (TrIn_mk ..).2 ⟨A8, _, c8, rfl, n6, n7, rfl, u1, u2, u3⟩⟩⟩, by simpa only [nodes] using r4, by simpa only [nodes] using u4⟩
theorem StOk.eds {P : Nat → Prop} {w : World} {a : Addr} {u : Value} {C : Int} (h : StOk P w a u C) {l : List Ed} {A : Option Addr} (hx : EdsIn P w l A) : ∃ l', EdsIn P (w.setCell a u) l' A ∧ l'.length = l.length ∧ ∀ M, 0 ≤ M → (∀ e, e ∈ l → nodes e.guard ≤ M ∧ nodes e.val ≤ M) → ∀ e, e ∈ l' → nodes e.guard ≤ C * M ∧ nodes e.val ≤ C * M := by
  rcases hx with rfl | ⟨b, o, rfl, hp, hl, hx⟩
  · exact ⟨[], .inl rfl, rfl, by simp⟩
  · obtain ⟨l', h1, h2⟩ := choose_all l (fun i e e' => EdAt P (w.setCell a u) e' b (o + i * 10) ∧ nodes e'.guard ≤ C * nodes e.guard ∧ nodes e'.val ≤ C * nodes e.val) (fun i e hi => h.ed (hx i e hi))
    refine ⟨l', .inr ⟨b, o, rfl, hp, by simpa using hl, fun i e hi => ?_⟩, h1, fun M _ hM e he => ?_⟩
    · obtain ⟨t, _, h3, _⟩ := h2 i e hi; exact h3
    · obtain ⟨i, hi⟩ := List.mem_iff_getElem?.1 he
      obtain ⟨t, ht, _, h4, h5⟩ := h2 i e hi
      obtain ⟨m1, m2⟩ := hM t (List.mem_of_getElem? ht)
      have hC := h.1
      exact ⟨Int.le_trans h4 (Int.mul_le_mul_of_nonneg_left m1 (by omega)), Int.le_trans h5 (Int.mul_le_mul_of_nonneg_left m2 (by omega))⟩
/-- rows of processes that lie elsewhere -/
theorem StOk.prs {P : Nat → Prop} {w : World} {a : Addr} {u : Value} {C : Int} (h : StOk P w a u C) {l : List Pr} {A : Option Addr} (hx : PrsIn P w l A) (hA : ∀ g, A = some g → g.block ≠ a.block) : ∃ l', PrsIn P (w.setCell a u) l' A ∧ l'.length = l.length ∧ l'.map (fun q : Pr => q.edges.length) = l.map (fun q : Pr => q.edges.length) ∧
    ∀ (M : Int) (K : Nat), 0 ≤ M → (∀ q, q ∈ l → q.edges.length ≤ K ∧ ∀ e, e ∈ q.edges → nodes e.guard ≤ M ∧ nodes e.val ≤ M) → ∀ q, q ∈ l' → q.edges.length ≤ K ∧ ∀ e, e ∈ q.edges → nodes e.guard ≤ C * M ∧ nodes e.val ≤ C * M := by
  rcases hx with rfl | ⟨b, o, rfl, hp, hl, hx⟩
  · exact ⟨[], .inl rfl, rfl, rfl, by simp⟩
  · have hb : b ≠ a.block := hA _ rfl
    have hc : ∀ i, (w.setCell a u).cell? ⟨b, i, none⟩ = w.cell? ⟨b, i, none⟩ := fun i => World.cell?_of_block (w := w) (a := ⟨b, i, none⟩) (Below.heap_setCell _ _ _ _ hb)
    obtain ⟨l', h1, h2⟩ := choose_all l (fun i q q' => PrAt P (w.setCell a u) q' b (o + i * 2) ∧ q'.edges.length = q.edges.length ∧ ∀ M, 0 ≤ M → (∀ e, e ∈ q.edges → nodes e.guard ≤ M ∧ nodes e.val ≤ M) → ∀ e, e ∈ q'.edges → nodes e.guard ≤ C * M ∧ nodes e.val ≤ C * M) (fun i q hi => by
      obtain ⟨a', c', ⟨e0, e1⟩, a2, c2, he, i1, i2, i3, i4⟩ := hx i q hi
      simp at he
      obtain ⟨rfl, rfl⟩ := he
      obtain ⟨es, j1, j2, j3⟩ := h.eds i4
      exact ⟨⟨q.locs, es⟩, ⟨a', c', ⟨(hc _).trans e0, (hc _).trans (by rw [e1, j2])⟩, a', c', rfl, i1, by show es.length ≤ c'; omega, i3, j1⟩, j2, j3⟩)
    refine ⟨l', .inr ⟨b, o, rfl, hp, by simpa using hl, fun i q hi => ?_⟩, h1, List.ext_getElem (by simp [h1]) fun i g1 g2 => ?_, fun M K hM hq q hm => ?_⟩
    · obtain ⟨t, _, h3, _⟩ := h2 i q hi; exact h3
    · simp only [List.length_map] at g1 g2
      obtain ⟨t, ht, _, h4, _⟩ := h2 i _ (List.getElem?_eq_getElem g1)
      rw [List.getElem?_eq_getElem g2] at ht
      cases ht
      simpa using h4
    · obtain ⟨i, hi⟩ := List.mem_iff_getElem?.1 hm
      obtain ⟨t, ht, _, h4, h5⟩ := h2 i q hi
      obtain ⟨m1, m2⟩ := hq t (List.mem_of_getElem? ht)
      exact ⟨by omega, h5 M hM m2⟩
end Go.Proofs.Ytffadknollkgiaa
