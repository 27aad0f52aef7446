/- Append of a whole row of processes to a row of one's own. Conditions: those of each theorem. -/
import Derived.Test.YtffadknollkgiaaJS4
set_option linter.unusedVariables false
set_option linter.unusedSimpArgs false
namespace Go.Proofs.Ytffadknollkgiaa
open Go.RowKit
set_option linter.unusedVariables false
set_option linter.unusedSimpArgs false

/-- two cells that are a process -/
def PrC0 (p : Nat → Prop) (w : World) (q : Pr) (c : List Value) : Prop := ∃ a n, c = [.int .i64 q.locs, .slice a q.edges.length n] ∧ PrIn p w q (.agg c.toArray)
theorem PrC0.frame {p : Nat → Prop} {w w' : World} {q : Pr} {c : List Value} (h : PrC0 p w q c) (hb : Below w.heap.size w w') : PrC0 p w' q c := by
  obtain ⟨a, n, h1, h2⟩ := h
  exact ⟨a, n, h1, h2.below hb⟩
theorem prs_cells {p : Nat → Prop} {w : World} {b : Nat} : ∀ (l : List Pr) (o : Nat), (∀ i t, l[i]? = some t → PrAt p w t b (o + i * 2)) → ∃ cs : List (List Value), AllR (PrC0 p w) l cs ∧ ∀ j u, cs.flatten[j]? = some u → w.cell? ⟨b, o + j, none⟩ = some u
  | [], o, _ => ⟨[], trivial, by simp⟩
  | q :: qs, o, h => by
    obtain ⟨a, n, ⟨h0, h1⟩, h2⟩ := h 0 q (by simp)
    obtain ⟨cs, k1, k2⟩ := prs_cells qs (o + 2) (fun i t hi => by
      have := h (i + 1) t (by simpa using hi)
      rw [show o + (i + 1) * 2 = o + 2 + i * 2 by omega] at this
      exact this)
    refine ⟨[.int .i64 q.locs, .slice a q.edges.length n] :: cs, ⟨⟨a, n, rfl, h2⟩, k1⟩, fun j u hj => ?_⟩
    match j, hj with
    | 0, hj => simp at hj; subst hj; simpa using h0
    | 1, hj => simp at hj; subst hj; simpa using h1
    | j + 2, hj =>
      have := k2 j u (by simpa using hj)
      rw [show o + (j + 2) = o + 2 + j by omega]
      exact this
theorem prc0_len {p : Nat → Prop} {w : World} {l : List Pr} {cs : List (List Value)} (h : AllR (PrC0 p w) l cs) : ∀ c, c ∈ cs → c.length = 2 := by
  intro c hc
  obtain ⟨i, hi⟩ := List.mem_iff_getElem?.1 hc
  have hl : i < l.length := by have := (List.getElem?_eq_some_iff.1 hi).1; rw [h.len] at this; exact this
  obtain ⟨c', h1, a, n, h2, _⟩ := h.at (List.getElem?_eq_getElem hl)
  rw [hi] at h1
  cases h1
  rw [h2]
  rfl
theorem prc0_one {p : Nat → Prop} {w : World} {l : List Pr} {cs : List (List Value)} (h : AllR (PrC0 p w) l cs) : ∀ u, u ∈ cs.flatten → u.oneCell' = true := by
  intro u hu
  obtain ⟨c, hc, huc⟩ := List.mem_flatten.1 hu
  obtain ⟨i, hi⟩ := List.mem_iff_getElem?.1 hc
  have hl : i < l.length := by have := (List.getElem?_eq_some_iff.1 hi).1; rw [h.len] at this; exact this
  obtain ⟨c', h1, a, n, h2, _⟩ := h.at (List.getElem?_eq_getElem hl)
  rw [hi] at h1
  cases h1
  rw [h2] at huc
  simp at huc
  rcases huc with rfl | rfl <;> rfl
/-- append of a row of processes -/
theorem wp_app_procs {ops : Array Oper} {rest : List Oper} {o : Oper} {a : Act} {Q : Exit → Act → World → Prop} {w : World} (hgd : o.guard = none) (s x : Operand)
    (ho : o.op = .call { callee := .builtin .append, args := #[s, x], argTypes := #[34, 34] }) (B : Nat) (v : Value) (acc cs : List (List Value)) (m b off c : Nat) (hs : a.eval s = v) (hx : a.eval x = .slice (some ⟨b, off, none⟩) m c)
    (hv : OwnR 41 2 B v acc w) (hB : B ≤ w.heap.size) (hm : cs.length = m) (hcl : ∀ c, c ∈ cs → c.length = 2) (hone : ∀ u, u ∈ cs.flatten → u.oneCell' = true) (hl : ∀ j u, cs.flatten[j]? = some u → w.cell? ⟨b, off + j, none⟩ = some u) (h1 : acc.length + m ≤ 100000)
    (h : ∀ v' w', OwnR 41 2 B v' (acc ++ cs) w' → w.grownBy w' v.ownBlock → (v'.ownBlock = v.ownBlock ∨ v'.ownBlock = some w.heap.size) → wpList Try.prog ops Q rest (a.put o.dst v') w') :
    wpList Try.prog ops Q (o :: rest) a w := by
  obtain ⟨ri, hi, hz, hs1, hs2⟩ := info_parts proc_info
  refine wpList_append_own_at _ hgd s x 34 ho B 41 ri _ 2 32 Try.underlying34 hi hz hs1 hs2 rfl (by omega) v acc.length _ hs hv.1 ⟨b, off, none⟩ m c cs.flatten hx (by rw [flat_len cs hcl, hm]) (fun j u hj => ?_) hone (by simp only [maxLen]; omega) (by omega) hB ?_
  · have e : Addr.add ⟨b, off, none⟩ j = ⟨b, off + j, none⟩ := by unfold Addr.add; split <;> simp_all
    rw [e]
    exact hl j u hj
  · intro v2 w3 hown hgrow _ hblk
    refine h v2 w3 ⟨?_, fun c hc => ?_⟩ hgrow hblk
    · rw [List.length_append, List.flatten_append, hm]; exact hown
    · rcases List.mem_append.1 hc with h | h
      · exact hv.2 c h
      · exact hcl c h
theorem OwnR.made (w : World) : OwnR 41 2 w.heap.size (.slice (some ⟨w.heap.size, 0, none⟩) 0 0) [] (w.alloc (.cells #[] 41)) :=
  ⟨World.ownsRow_made (e := 41) (size := 2) (base := w.heap.size) w #[] 0 (Nat.le_refl _) (by simp) (by simp), by simp⟩
theorem prs_of0 {p : Nat → Prop} {w : World} {B : Nat} {a : Option Addr} {n c : Nat} {l : List Pr} {cs : List (List Value)} (h : OwnR 41 2 B (.slice a n c) cs w) (ha : AllR (PrC0 p w) l cs) (hp : ∀ g, a = some ⟨g, 0, none⟩ → p g) : PrsIn p w l a := by
  obtain ⟨a', c', e, _, _, h3⟩ := h.shape
  simp at e
  obtain ⟨rfl, rfl, rfl⟩ := e
  rcases h3 with h3 | ⟨g, rfl, h4, h5, h6, h7⟩
  · subst h3
    have := ha.len
    exact .inl (List.eq_nil_of_length_eq_zero (by simpa using this.symm))
  · refine .inr ⟨g, 0, rfl, hp g rfl, h5, fun i t ht => ?_⟩
    obtain ⟨cc, hcc, a1, n1, e1, e2⟩ := ha.at ht
    rw [Nat.zero_add]
    have hcell : ∀ j, j < 2 → w.cell? ⟨g, i * 2 + j, none⟩ = ([.int .i64 t.locs, .slice a1 t.edges.length n1] : List Value)[j]? := fun j hj => by rw [h6 i j cc hcc hj, e1]
    subst e1
    exact ⟨a1, n1, ⟨hcell 0 (by omega), hcell 1 (by omega)⟩, e2⟩
theorem cell_bel {w w' : World} (h : Below w.heap.size w w') {b o : Nat} {v : Value} (hb : b < w.heap.size) (hc : w.cell? ⟨b, o, none⟩ = some v) : w'.cell? ⟨b, o, none⟩ = some v := (World.cell?_of_block (w := w) (a := ⟨b, o, none⟩) (h.block b hb)).trans hc
theorem below_grown2 {w1 W w' : World} {g : Option Nat} (hb : Below w1.heap.size w1 W) (hg : W.grownBy w' g) (h : ∀ k, g = some k → w1.heap.size ≤ k) : Below w1.heap.size w1 w' :=
  ⟨hg.os.trans hb.os, hg.tape.trans hb.tape, hg.output.trans hb.output, Nat.le_trans hb.size hg.size, fun k hk => (hg.block k (Nat.lt_of_lt_of_le hk hb.size) (fun e => by have := h k e.symm; omega)).trans (hb.block k hk)⟩
end Go.Proofs.Ytffadknollkgiaa
