/- Growing rows of edges and of processes of one's own: append of one, and what lies in them. Conditions: those of each theorem. -/
import Derived.Test.YtffadknollkgiaaSysIn
import Derived.Test.YtffadknollkgiaaPairReg
namespace Go.Proofs.Ytffadknollkgiaa
open Go.RowKit
set_option linter.unusedVariables false
set_option linter.unusedSimpArgs false

theorem edge_info : (Try.prog.info? 27).map (fun i => (i.zero, i.size, i.bytes)) = some (some (.agg #[.int .i64 0, .int .i64 0, .int .i64 0, .int .i64 0, .slice none 0 0, .int .i64 0, .int .i64 0, .int .i64 0, .slice none 0 0, .int .i64 0]), 10, 112) := by kernel_rfl
theorem proc_info : (Try.prog.info? 41).map (fun i => (i.zero, i.size, i.bytes)) = some (some (.agg #[.int .i64 0, .slice none 0 0]), 2, 32) := by kernel_rfl

/-- the cell at a place of records laid end to end -/
theorem flat_at {n : Nat} : ∀ (cs : List (List Value)) (i j : Nat) (c : List Value), (∀ c, c ∈ cs → c.length = n) → j < n → cs[i]? = some c → cs.flatten[i * n + j]? = c[j]?
  | [], i, j, c, _, _, h => by simp at h
  | d :: ds, 0, j, c, hl, hj, h => by
    simp at h
    subst h
    rw [List.flatten_cons, Nat.zero_mul, Nat.zero_add, List.getElem?_append_left (by rw [hl d (by simp)]; exact hj)]
  | d :: ds, i + 1, j, c, hl, hj, h => by
    have := flat_at ds i j c (fun c hc => hl c (by simp [hc])) hj (by simpa using h)
    rw [List.flatten_cons, List.getElem?_append_right (by rw [hl d (by simp), Nat.succ_mul]; omega), hl d (by simp), ← this]
    congr 1
    rw [Nat.succ_mul]; omega
theorem flat_len {n : Nat} : ∀ (cs : List (List Value)), (∀ c, c ∈ cs → c.length = n) → cs.flatten.length = cs.length * n
  | [], _ => by simp
  | d :: ds, h => by
    rw [List.flatten_cons, List.length_append, flat_len ds (fun c hc => h c (by simp [hc])), h d (by simp), List.length_cons, Nat.succ_mul]; omega

/-- a growing row of records of one's own, by their cells -/
def OwnR (e : TypeId) (n B : Nat) (v : Value) (cs : List (List Value)) (w : World) : Prop := w.ownsRow B e n v cs.length cs.flatten ∧ ∀ c, c ∈ cs → c.length = n
theorem OwnR.nil (e : TypeId) (n B : Nat) (w : World) : OwnR e n B (.slice none 0 0) [] w := ⟨World.ownsRow_nil .., by simp⟩
theorem OwnR.keep {e : TypeId} {n B : Nat} {v : Value} {cs : List (List Value)} {w w' : World} (h : OwnR e n B v cs w) (hb : ∀ g, v.ownBlock = some g → B ≤ g → g < w.heap.size → w'.heap[g]? = w.heap[g]?) : OwnR e n B v cs w' := by
  refine ⟨⟨h.1.1, ?_⟩, h.2⟩
  rcases h.1.2 with h2 | ⟨g, cap, cur, rfl, e2, e3, e4⟩
  · exact .inl h2
  · exact .inr ⟨g, cap, cur, rfl, e2, (hb g rfl e2 (Array.getElem?_eq_some_iff.1 e3).1).trans e3, e4⟩
theorem OwnR.next {e : TypeId} {n B : Nat} {v : Value} {cs : List (List Value)} {w w' : World} (h : OwnR e n B v cs w) (hb : Below w.heap.size w w') : OwnR e n B v cs w' := h.keep fun g _ _ hl => hb.block g hl
theorem OwnR.but {e : TypeId} {n B R : Nat} {v : Value} {cs : List (List Value)} {w w' : World} (h : OwnR e n B v cs w) (hb : But w R w') (hR : R < B) : OwnR e n B v cs w' := h.keep fun g _ h1 hl => hb.block g hl (by omega)
theorem OwnR.set {e : TypeId} {n B : Nat} {v : Value} {cs : List (List Value)} {w : World} (h : OwnR e n B v cs w) {a : Addr} (ha : ∀ g, v.ownBlock = some g → B ≤ g → g ≠ a.block) (u : Value) : OwnR e n B v cs (w.setCell a u) :=
  h.keep fun g h1 h2 _ => Below.heap_setCell _ _ _ _ (ha g h1 h2)
theorem OwnR.blk {e : TypeId} {n B : Nat} {v : Value} {cs : List (List Value)} {w : World} (h : OwnR e n B v cs w) : ∀ g, v.ownBlock = some g → B ≤ g ∧ g < w.heap.size := by
  intro g hg
  rcases h.1.2 with ⟨rfl, _⟩ | ⟨g', cap, cur, rfl, e2, e3, e4⟩
  · simp [Value.ownBlock] at hg
  · simp [Value.ownBlock] at hg
    subst hg
    exact ⟨e2, (Array.getElem?_eq_some_iff.1 e3).1⟩
theorem OwnR.shape {e : TypeId} {n B : Nat} {v : Value} {cs : List (List Value)} {w : World} (h : OwnR e n B v cs w) : ∃ a c, v = .slice a cs.length c ∧ cs.length ≤ c ∧ c ≤ maxLen ∧ (cs = [] ∨ ∃ g, a = some ⟨g, 0, none⟩ ∧ B ≤ g ∧ g < w.heap.size ∧ (∀ i j c, cs[i]? = some c → j < n → w.cell? ⟨g, i * n + j, none⟩ = c[j]?) ∧ ∀ j, w.frozen? ⟨g, j, none⟩ = false) := by
  rcases h.1.2 with ⟨rfl, h2⟩ | ⟨g, cap, cur, rfl, e2, e3, e4, e5, e6, e7⟩
  · have : cs = [] := List.eq_nil_of_length_eq_zero h2
    subst this
    exact ⟨none, 0, rfl, Nat.le_refl _, by simp [maxLen], .inl rfl⟩
  · refine ⟨_, cap, rfl, e4, e5, .inr ⟨g, rfl, e2, (Array.getElem?_eq_some_iff.1 e3).1, fun i j c hc hj => ?_, fun j => by simp [World.frozen?, e3]⟩⟩
    have h1 := flat_at cs i j c h.2 hj hc
    have hcl : j < c.length := by rw [h.2 c (List.mem_of_getElem? hc)]; exact hj
    have h2 := World.ownsRow.cells h.1 (g := g) rfl (i * n + j) c[j] (by rw [h1, List.getElem?_eq_getElem hcl])
    have e : Addr.add ⟨g, 0, none⟩ (i * n + j) = ⟨g, i * n + j, none⟩ := by unfold Addr.add; split <;> simp_all
    rw [e] at h2
    rw [h2, List.getElem?_eq_getElem hcl]

/-- append of one edge, just laid, to a row of edges, at the operation -/
theorem wp_app_edge {ops : Array Oper} {rest : List Oper} {o : Oper} {a : Act} {Q : Exit → Act → World → Prop} {w : World} (hgd : o.guard = none) (s x : Operand)
    (ho : o.op = .call { callee := .builtin .append, args := #[s, x], argTypes := #[39, 39] }) (B : Nat) (v : Value) (acc : List (List Value)) (cs : List Value) (g c : Nat) (hs : a.eval s = v) (hx : a.eval x = .slice (some ⟨g, 0, none⟩) 1 c)
    (hv : OwnR 27 10 B v acc w) (hB : B ≤ w.heap.size) (hl : ∀ j u, cs[j]? = some u → w.cell? ⟨g, j, none⟩ = some u) (hn : cs.length = 10) (hone : ∀ u, u ∈ cs → u.oneCell' = true) (h1 : acc.length ≤ 100000)
    (h : ∀ v' w', OwnR 27 10 B v' (acc ++ [cs]) w' → w.grownBy w' v.ownBlock → (v'.ownBlock = v.ownBlock ∨ v'.ownBlock = some w.heap.size) → wpList Try.prog ops Q rest (a.put o.dst v') w') :
    wpList Try.prog ops Q (o :: rest) a w := by
  obtain ⟨ri, hi, hz, hs1, hs2⟩ := info_parts edge_info
  refine wpList_append_own_at _ hgd s x 39 ho B 27 ri _ 10 112 Try.underlying39 hi hz hs1 hs2 rfl (by omega) v acc.length _ hs hv.1 ⟨g, 0, none⟩ 1 c cs hx (by rw [hn]) (fun j u hj => ?_) hone (by simp only [maxLen]; omega) (by omega) hB ?_
  · have e : Addr.add ⟨g, 0, none⟩ j = ⟨g, j, none⟩ := by unfold Addr.add; split <;> simp_all
    rw [e]
    exact hl j u hj
  · intro v2 w3 hown hgrow _ hblk
    refine h v2 w3 ⟨?_, fun c hc => ?_⟩ hgrow hblk
    · rw [List.length_append, List.flatten_append]; simpa using hown
    · rcases List.mem_append.1 hc with h | h
      · exact hv.2 c h
      · simp at h; rw [h]; exact hn
/-- append of one process -/
theorem wp_app_proc {ops : Array Oper} {rest : List Oper} {o : Oper} {a : Act} {Q : Exit → Act → World → Prop} {w : World} (hgd : o.guard = none) (s x : Operand)
    (ho : o.op = .call { callee := .builtin .append, args := #[s, x], argTypes := #[34, 34] }) (B : Nat) (v : Value) (acc : List (List Value)) (cs : List Value) (g c : Nat) (hs : a.eval s = v) (hx : a.eval x = .slice (some ⟨g, 0, none⟩) 1 c)
    (hv : OwnR 41 2 B v acc w) (hB : B ≤ w.heap.size) (hl : ∀ j u, cs[j]? = some u → w.cell? ⟨g, j, none⟩ = some u) (hn : cs.length = 2) (hone : ∀ u, u ∈ cs → u.oneCell' = true) (h1 : acc.length ≤ 100000)
    (h : ∀ v' w', OwnR 41 2 B v' (acc ++ [cs]) w' → w.grownBy w' v.ownBlock → (v'.ownBlock = v.ownBlock ∨ v'.ownBlock = some w.heap.size) → wpList Try.prog ops Q rest (a.put o.dst v') w') :
    wpList Try.prog ops Q (o :: rest) a w := by
  obtain ⟨ri, hi, hz, hs1, hs2⟩ := info_parts proc_info
  refine wpList_append_own_at _ hgd s x 34 ho B 41 ri _ 2 32 Try.underlying34 hi hz hs1 hs2 rfl (by omega) v acc.length _ hs hv.1 ⟨g, 0, none⟩ 1 c cs hx (by rw [hn]) (fun j u hj => ?_) hone (by simp only [maxLen]; omega) (by omega) hB ?_
  · have e : Addr.add ⟨g, 0, none⟩ j = ⟨g, j, none⟩ := by unfold Addr.add; split <;> simp_all
    rw [e]
    exact hl j u hj
  · intro v2 w3 hown hgrow _ hblk
    refine h v2 w3 ⟨?_, fun c hc => ?_⟩ hgrow hblk
    · rw [List.length_append, List.flatten_append]; simpa using hown
    · rcases List.mem_append.1 hc with h | h
      · exact hv.2 c h
      · simp at h; rw [h]; exact hn

/-! ### what the records are -/
/-- ten cells that are an edge -/
def EdC (p : Nat → Prop) (w : World) (M : Int) (e : Ed) (c : List Value) : Prop := ∃ a n a' n', c = e.cells a n a' n' ∧ EdIn p w e (.agg c.toArray) ∧ nodes e.guard ≤ M ∧ nodes e.val ≤ M
def AllR {T : Type} (At : T → List Value → Prop) : List T → List (List Value) → Prop
  | [], [] => True
  | t :: ts, c :: cs => At t c ∧ AllR At ts cs
  | _, _ => False
theorem AllR.len {T : Type} {At : T → List Value → Prop} : ∀ {l : List T} {cs : List (List Value)}, AllR At l cs → cs.length = l.length
  | [], [], _ => rfl
  | t :: ts, c :: cs, h => by simp [AllR.len h.2]
  | [], _ :: _, h => h.elim
  | _ :: _, [], h => h.elim
theorem AllR.mono {T : Type} {At At' : T → List Value → Prop} (hm : ∀ t c, At t c → At' t c) : ∀ {l : List T} {cs : List (List Value)}, AllR At l cs → AllR At' l cs
  | [], [], _ => trivial
  | t :: ts, c :: cs, h => ⟨hm t c h.1, AllR.mono hm h.2⟩
  | [], _ :: _, h => h.elim
  | _ :: _, [], h => h.elim
theorem AllR.snoc {T : Type} {At : T → List Value → Prop} {t : T} {c : List Value} (ht : At t c) : ∀ {l : List T} {cs : List (List Value)}, AllR At l cs → AllR At (l ++ [t]) (cs ++ [c])
  | [], [], _ => ⟨ht, trivial⟩
  | u :: us, d :: ds, h => ⟨h.1, AllR.snoc ht h.2⟩
  | [], _ :: _, h => h.elim
  | _ :: _, [], h => h.elim
theorem AllR.at {T : Type} {At : T → List Value → Prop} : ∀ {l : List T} {cs : List (List Value)} {i : Nat} {t : T}, AllR At l cs → l[i]? = some t → ∃ c, cs[i]? = some c ∧ At t c
  | [], [], _, _, _, h => by simp at h
  | t :: ts, c :: cs, 0, u, h, hi => by simp at hi; subst hi; exact ⟨c, by simp, h.1⟩
  | t :: ts, c :: cs, i + 1, u, h, hi => by simpa using AllR.at h.2 (by simpa using hi)
  | [], _ :: _, _, _, h, _ => h.elim
  | _ :: _, [], _, _, h, _ => h.elim
/-- a row of edges -/
theorem eds_of {p : Nat → Prop} {w : World} {M : Int} {B : Nat} {a : Option Addr} {n c : Nat} {l : List Ed} {cs : List (List Value)} (h : OwnR 27 10 B (.slice a n c) cs w) (ha : AllR (EdC p w M) l cs) (hp : ∀ g, a = some ⟨g, 0, none⟩ → p g) : EdsIn p w l a := by
  obtain ⟨a', c', e, _, _, h3⟩ := h.shape
  simp at e
  obtain ⟨rfl, rfl, rfl⟩ := e
  rcases h3 with h3 | ⟨g, rfl, h4, h5, h6, h7⟩
  · subst h3
    have := ha.len
    exact .inl (List.eq_nil_of_length_eq_zero (by simpa using this.symm))
  · refine .inr ⟨g, 0, rfl, hp g rfl, h5, fun i t ht => ?_⟩
    obtain ⟨cc, hcc, a1, n1, a2, n2, e1, e2, _⟩ := ha.at ht
    rw [Nat.zero_add]
    have hcell : ∀ j, j < 10 → w.cell? ⟨g, i * 10 + j, none⟩ = (t.cells a1 n1 a2 n2)[j]? := fun j hj => by rw [h6 i j cc hcc hj, e1]
    subst e1
    exact ⟨a1, n1, a2, n2, ⟨hcell 0 (by omega), hcell 1 (by omega), hcell 2 (by omega), hcell 3 (by omega), hcell 4 (by omega), hcell 5 (by omega), hcell 6 (by omega), hcell 7 (by omega), hcell 8 (by omega), hcell 9 (by omega)⟩, e2⟩
/-- two cells that are a process -/
def PrC (p : Nat → Prop) (w : World) (q : Pr) (c : List Value) : Prop := ∃ a n, c = [.int .i64 q.locs, .slice a q.edges.length n] ∧ PrIn p w q (.agg c.toArray) ∧ (q.edges ≠ [] → ∀ g, a = some g → ∀ j, w.frozen? ⟨g.block, j, none⟩ = false)
theorem prs_of {p : Nat → Prop} {w : World} {B : Nat} {a : Option Addr} {n c : Nat} {l : List Pr} {cs : List (List Value)} (h : OwnR 41 2 B (.slice a n c) cs w) (ha : AllR (PrC p w) l cs) (hp : ∀ g, a = some ⟨g, 0, none⟩ → p g) : PrsIn p w l a := by
  obtain ⟨a', c', e, _, _, h3⟩ := h.shape
  simp at e
  obtain ⟨rfl, rfl, rfl⟩ := e
  rcases h3 with h3 | ⟨g, rfl, h4, h5, h6, h7⟩
  · subst h3
    have := ha.len
    exact .inl (List.eq_nil_of_length_eq_zero (by simpa using this.symm))
  · refine .inr ⟨g, 0, rfl, hp g rfl, h5, fun i t ht => ?_⟩
    obtain ⟨cc, hcc, a1, n1, e1, e2, _⟩ := ha.at ht
    rw [Nat.zero_add]
    have hcell : ∀ j, j < 2 → w.cell? ⟨g, i * 2 + j, none⟩ = ([.int .i64 t.locs, .slice a1 t.edges.length n1] : List Value)[j]? := fun j hj => by rw [h6 i j cc hcc hj, e1]
    subst e1
    exact ⟨a1, n1, ⟨hcell 0 (by omega), hcell 1 (by omega)⟩, e2⟩
end Go.Proofs.Ytffadknollkgiaa
