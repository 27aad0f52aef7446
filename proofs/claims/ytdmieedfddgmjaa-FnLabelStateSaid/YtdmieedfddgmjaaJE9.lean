/- Joined texts (StepsV, EdgeRow, ProcsApp): contracts and plain laws. Conditions: those of each theorem. -/
import Derived.Test.YtdmieedfddgmjaaJE4
import Derived.Test.YtdmieedfddgmjaaJE6
import Derived.Test.YtdmieedfddgmjaaJE2
set_option linter.unusedVariables false
set_option linter.unusedSimpArgs false
namespace Go.Proofs.Ytdmieedfddgmjaa
open Go.RowKit
set_option linter.unusedVariables false
namespace Sys

/-- a variable of four cells -/
def Box4 (w : World) (B : Nat) (a b c d : Value) : Prop := B < w.heap.size ∧ (w.cell? ⟨B, 0, none⟩ = some a ∧ w.cell? ⟨B, 1, none⟩ = some b ∧ w.cell? ⟨B, 2, none⟩ = some c ∧ w.cell? ⟨B, 3, none⟩ = some d) ∧ ∀ i, w.frozen? ⟨B, i, none⟩ = false
theorem box4_block {w w' : World} (hs : w.heap.size ≤ w'.heap.size) {B : Nat} {a b c d : Value} (he : w'.heap[B]? = w.heap[B]?) (h : Box4 w B a b c d) : Box4 w' B a b c d := by
  have ec : ∀ i, w'.cell? ⟨B, i, none⟩ = w.cell? ⟨B, i, none⟩ := fun i => World.cell?_of_block (w := w) (a := ⟨B, i, none⟩) he
  have ef : ∀ i, w'.frozen? ⟨B, i, none⟩ = w.frozen? ⟨B, i, none⟩ := fun i => World.frozen?_of_block (w := w) (a := ⟨B, i, none⟩) he
  exact ⟨Nat.lt_of_lt_of_le h.1 hs, by simp only [ec]; exact h.2.1, by simp only [ef]; exact h.2.2⟩
theorem box4_next {w w' : World} (h : Below w.heap.size w w') {B : Nat} {a b c d : Value} (hb : Box4 w B a b c d) : Box4 w' B a b c d := box4_block h.size (h.block B hb.1) hb
theorem box4_at {w : World} {B : Nat} {a b c d : Value} {t : TypeId} (h : B = w.heap.size) : Box4 (w.alloc (.cells #[a, b, c, d] t)) B a b c d := by subst h; exact ⟨by simp, by simp, by simp⟩

/-- which of n processes are p or q -/
def procsB (n : Nat) (p q : Int) : List Bool := (List.range n).map fun (i : Nat) => decide (p = (i : Int)) || decide (q = (i : Int))
def stepB (s : Sy) (p q : Int) : List Bool := if okSy s = true then procsB s.procs.length p q else []
theorem procsB_len (n : Nat) (p q : Int) : (procsB n p q).length = n := by simp [procsB]
theorem procsB_at {n i : Nat} (p q : Int) (h : i < n) : (procsB n p q)[i]? = some (decide (p = (i : Int)) || decide (q = (i : Int))) := by simp [procsB, h]
theorem stepB_len (s : Sy) (p q : Int) : (stepB s p q).length ≤ 1000 := by
  unfold stepB
  split
  · rename_i ho
    rw [okSy] at ho
    simp only [Bool.and_eq_true, decide_eq_true_eq] at ho
    rw [procsB_len]; omega
  · simp
/-- what is filled in -/
theorem procs_done {n : Nat} {p q : Int} {w w' : World} {R : Nat} {g : Nat → Value} (hn : n ≤ 1000) (hB : w.heap.size ≤ R) (hr : Row w' R n g) (hg : ∀ i, i < n → g i = .bool (decide (p = (i : Int)) || decide (q = (i : Int)))) : NewV w.heap.size ((procsB n p q).map Value.bool) (.slice (some ⟨R, 0, none⟩) n n) w' := by
  have hl : ((procsB n p q).map Value.bool).length = n := by rw [List.length_map, procsB_len]
  refine ⟨_, n, [R], by rw [hl], by rw [hl]; exact Nat.le_refl _, by unfold maxLen; omega, .inr ⟨R, rfl, rfl, ?_⟩, by simpa using hB⟩
  rw [hl]
  refine hr.congr fun i hi => ?_
  rw [hg i hi, List.getD_eq_getElem?_getD, List.getElem?_map, procsB_at p q hi]
  rfl
theorem procs_step {k : Nat} {p q : Int} {g : Nat → Value} {v : Bool} (h : ∀ i, i < k → g i = .bool (decide (p = (i : Int)) || decide (q = (i : Int)))) (hv : v = (decide (p = (k : Int)) || decide (q = (k : Int)))) : ∀ i, i < k + 1 → (fun i => if i = k then Value.bool v else g i) i = .bool (decide (p = (i : Int)) || decide (q = (i : Int))) := fun i hi => by
  by_cases e : i = k
  · subst e; simp [hv]
  · simp [e]; exact (by simpa using h i (by omega))

end Sys
end Go.Proofs.Ytdmieedfddgmjaa
namespace Go.Proofs.Ytdmieedfddgmjaa
open Go.RowKit
set_option linter.unusedVariables false
set_option linter.unusedSimpArgs false

theorem edge_info : (Try.prog.info? 89).map (fun i => (i.zero, i.size, i.bytes)) = some (some (.agg #[.int .i64 0, .int .i64 0, .int .i64 0, .int .i64 0, .slice none 0 0, .int .i64 0, .int .i64 0, .int .i64 0, .slice none 0 0, .int .i64 0]), 10, 112) := by kernel_rfl
theorem proc_info : (Try.prog.info? 82).map (fun i => (i.zero, i.size, i.bytes)) = some (some (.agg #[.int .i64 0, .slice none 0 0]), 2, 32) := by kernel_rfl

/-- the cell at a place of records laid end to end -/
theorem flat_at {n : Nat} : ∀ (cs : List (List Value)) (i j : Nat) (c : List Value), (∀ c, c ∈ cs → c.length = n) → j < n → cs[i]? = some c → cs.flatten[i * n + j]? = c[j]?
  | [], i, j, c, _, _, h => by simp at h
  | d :: ds, 0, j, c, hl, hj, h => by
    simp at h
    subst h
    rw [List.flatten_cons, Nat.zero_mul, Nat.zero_add, List.getElem?_append_left (by rw [hl d (by simp)]; exact hj)]
  | d :: ds, i + 1, j, c, hl, hj, h => by
    have := flat_at ds i j c (fun c hc => hl c (by simp [hc])) hj (by simpa using h)
    rw [List.flatten_cons, List.getElem?_append_right (by rw [hl d (by simp), Nat.succ_mul]; omega), hl d (by simp), ← this]
    congr 1
    rw [Nat.succ_mul]; omega
theorem flat_len {n : Nat} : ∀ (cs : List (List Value)), (∀ c, c ∈ cs → c.length = n) → cs.flatten.length = cs.length * n
  | [], _ => by simp
  | d :: ds, h => by
    rw [List.flatten_cons, List.length_append, flat_len ds (fun c hc => h c (by simp [hc])), h d (by simp), List.length_cons, Nat.succ_mul]; omega

/-- a growing row of records of one's own, by their cells -/
def OwnR (e : TypeId) (n B : Nat) (v : Value) (cs : List (List Value)) (w : World) : Prop := w.ownsRow B e n v cs.length cs.flatten ∧ ∀ c, c ∈ cs → c.length = n
theorem OwnR.nil (e : TypeId) (n B : Nat) (w : World) : OwnR e n B (.slice none 0 0) [] w := ⟨World.ownsRow_nil .., by simp⟩
theorem OwnR.keep {e : TypeId} {n B : Nat} {v : Value} {cs : List (List Value)} {w w' : World} (h : OwnR e n B v cs w) (hb : ∀ g, v.ownBlock = some g → B ≤ g → g < w.heap.size → w'.heap[g]? = w.heap[g]?) : OwnR e n B v cs w' := by
  refine ⟨⟨h.1.1, ?_⟩, h.2⟩
  rcases h.1.2 with h2 | ⟨g, cap, cur, rfl, e2, e3, e4⟩
  · exact .inl h2
  · exact .inr ⟨g, cap, cur, rfl, e2, (hb g rfl e2 (Array.getElem?_eq_some_iff.1 e3).1).trans e3, e4⟩
theorem OwnR.next {e : TypeId} {n B : Nat} {v : Value} {cs : List (List Value)} {w w' : World} (h : OwnR e n B v cs w) (hb : Below w.heap.size w w') : OwnR e n B v cs w' := h.keep fun g _ _ hl => hb.block g hl
theorem OwnR.but {e : TypeId} {n B R : Nat} {v : Value} {cs : List (List Value)} {w w' : World} (h : OwnR e n B v cs w) (hb : But w R w') (hR : R < B) : OwnR e n B v cs w' := h.keep fun g _ h1 hl => hb.block g hl (by omega)
theorem OwnR.set {e : TypeId} {n B : Nat} {v : Value} {cs : List (List Value)} {w : World} (h : OwnR e n B v cs w) {a : Addr} (ha : ∀ g, v.ownBlock = some g → B ≤ g → g ≠ a.block) (u : Value) : OwnR e n B v cs (w.setCell a u) :=
  h.keep fun g h1 h2 _ => Below.heap_setCell _ _ _ _ (ha g h1 h2)
theorem OwnR.blk {e : TypeId} {n B : Nat} {v : Value} {cs : List (List Value)} {w : World} (h : OwnR e n B v cs w) : ∀ g, v.ownBlock = some g → B ≤ g ∧ g < w.heap.size := by
  intro g hg
  rcases h.1.2 with ⟨rfl, _⟩ | ⟨g', cap, cur, rfl, e2, e3, e4⟩
  · simp [Value.ownBlock] at hg
  · simp [Value.ownBlock] at hg
    subst hg
    exact ⟨e2, (Array.getElem?_eq_some_iff.1 e3).1⟩
theorem OwnR.shape {e : TypeId} {n B : Nat} {v : Value} {cs : List (List Value)} {w : World} (h : OwnR e n B v cs w) : ∃ a c, v = .slice a cs.length c ∧ cs.length ≤ c ∧ c ≤ maxLen ∧ (cs = [] ∨ ∃ g, a = some ⟨g, 0, none⟩ ∧ B ≤ g ∧ g < w.heap.size ∧ (∀ i j c, cs[i]? = some c → j < n → w.cell? ⟨g, i * n + j, none⟩ = c[j]?) ∧ ∀ j, w.frozen? ⟨g, j, none⟩ = false) := by
  rcases h.1.2 with ⟨rfl, h2⟩ | ⟨g, cap, cur, rfl, e2, e3, e4, e5, e6, e7⟩
  · have : cs = [] := List.eq_nil_of_length_eq_zero h2
    subst this
    exact ⟨none, 0, rfl, Nat.le_refl _, by simp [maxLen], .inl rfl⟩
  · refine ⟨_, cap, rfl, e4, e5, .inr ⟨g, rfl, e2, (Array.getElem?_eq_some_iff.1 e3).1, fun i j c hc hj => ?_, fun j => by simp [World.frozen?, e3]⟩⟩
    have h1 := flat_at cs i j c h.2 hj hc
    have hcl : j < c.length := by rw [h.2 c (List.mem_of_getElem? hc)]; exact hj
    have h2 := World.ownsRow.cells h.1 (g := g) rfl (i * n + j) c[j] (by rw [h1, List.getElem?_eq_getElem hcl])
    have e : Addr.add ⟨g, 0, none⟩ (i * n + j) = ⟨g, i * n + j, none⟩ := by unfold Addr.add; split <;> simp_all
    rw [e] at h2
    rw [h2, List.getElem?_eq_getElem hcl]

/-- append of one edge, just laid, to a row of edges, at the operation -/
theorem wp_app_edge {ops : Array Oper} {rest : List Oper} {o : Oper} {a : Act} {Q : Exit → Act → World → Prop} {w : World} (hgd : o.guard = none) (s x : Operand)
    (ho : o.op = .call { callee := .builtin .append, args := #[s, x], argTypes := #[80, 80] }) (B : Nat) (v : Value) (acc : List (List Value)) (cs : List Value) (g c : Nat) (hs : a.eval s = v) (hx : a.eval x = .slice (some ⟨g, 0, none⟩) 1 c)
    (hv : OwnR 89 10 B v acc w) (hB : B ≤ w.heap.size) (hl : ∀ j u, cs[j]? = some u → w.cell? ⟨g, j, none⟩ = some u) (hn : cs.length = 10) (hone : ∀ u, u ∈ cs → u.oneCell' = true) (h1 : acc.length ≤ 100000)
    (h : ∀ v' w', OwnR 89 10 B v' (acc ++ [cs]) w' → w.grownBy w' v.ownBlock → (v'.ownBlock = v.ownBlock ∨ v'.ownBlock = some w.heap.size) → wpList Try.prog ops Q rest (a.put o.dst v') w') :
    wpList Try.prog ops Q (o :: rest) a w := by
  obtain ⟨ri, hi, hz, hs1, hs2⟩ := info_parts edge_info
  refine wpList_append_own_at _ hgd s x 80 ho B 89 ri _ 10 112 Try.underlying80 hi hz hs1 hs2 rfl (by omega) v acc.length _ hs hv.1 ⟨g, 0, none⟩ 1 c cs hx (by rw [hn]) (fun j u hj => ?_) hone (by simp only [maxLen]; omega) (by omega) hB ?_
  · have e : Addr.add ⟨g, 0, none⟩ j = ⟨g, j, none⟩ := by unfold Addr.add; split <;> simp_all
    rw [e]
    exact hl j u hj
  · intro v2 w3 hown hgrow _ hblk
    refine h v2 w3 ⟨?_, fun c hc => ?_⟩ hgrow hblk
    · rw [List.length_append, List.flatten_append]; simpa using hown
    · rcases List.mem_append.1 hc with h | h
      · exact hv.2 c h
      · simp at h; rw [h]; exact hn
/-- append of one process -/
theorem wp_app_proc {ops : Array Oper} {rest : List Oper} {o : Oper} {a : Act} {Q : Exit → Act → World → Prop} {w : World} (hgd : o.guard = none) (s x : Operand)
    (ho : o.op = .call { callee := .builtin .append, args := #[s, x], argTypes := #[61, 61] }) (B : Nat) (v : Value) (acc : List (List Value)) (cs : List Value) (g c : Nat) (hs : a.eval s = v) (hx : a.eval x = .slice (some ⟨g, 0, none⟩) 1 c)
    (hv : OwnR 82 2 B v acc w) (hB : B ≤ w.heap.size) (hl : ∀ j u, cs[j]? = some u → w.cell? ⟨g, j, none⟩ = some u) (hn : cs.length = 2) (hone : ∀ u, u ∈ cs → u.oneCell' = true) (h1 : acc.length ≤ 100000)
    (h : ∀ v' w', OwnR 82 2 B v' (acc ++ [cs]) w' → w.grownBy w' v.ownBlock → (v'.ownBlock = v.ownBlock ∨ v'.ownBlock = some w.heap.size) → wpList Try.prog ops Q rest (a.put o.dst v') w') :
    wpList Try.prog ops Q (o :: rest) a w := by
  obtain ⟨ri, hi, hz, hs1, hs2⟩ := info_parts proc_info
  refine wpList_append_own_at _ hgd s x 61 ho B 82 ri _ 2 32 Try.underlying61 hi hz hs1 hs2 rfl (by omega) v acc.length _ hs hv.1 ⟨g, 0, none⟩ 1 c cs hx (by rw [hn]) (fun j u hj => ?_) hone (by simp only [maxLen]; omega) (by omega) hB ?_
  · have e : Addr.add ⟨g, 0, none⟩ j = ⟨g, j, none⟩ := by unfold Addr.add; split <;> simp_all
    rw [e]
    exact hl j u hj
  · intro v2 w3 hown hgrow _ hblk
    refine h v2 w3 ⟨?_, fun c hc => ?_⟩ hgrow hblk
    · rw [List.length_append, List.flatten_append]; simpa using hown
    · rcases List.mem_append.1 hc with h | h
      · exact hv.2 c h
      · simp at h; rw [h]; exact hn

/-! ### what the records are -/
/-- ten cells that are an edge -/
def EdC (p : Nat → Prop) (w : World) (M : Int) (e : Ed) (c : List Value) : Prop := ∃ a n a' n', c = e.cells a n a' n' ∧ EdIn p w e (.agg c.toArray) ∧ nodes e.guard ≤ M ∧ nodes e.val ≤ M
def AllR {T : Type} (At : T → List Value → Prop) : List T → List (List Value) → Prop
  | [], [] => True
  | t :: ts, c :: cs => At t c ∧ AllR At ts cs
  | _, _ => False
theorem AllR.len {T : Type} {At : T → List Value → Prop} : ∀ {l : List T} {cs : List (List Value)}, AllR At l cs → cs.length = l.length
  | [], [], _ => rfl
  | t :: ts, c :: cs, h => by simp [AllR.len h.2]
  | [], _ :: _, h => h.elim
  | _ :: _, [], h => h.elim
theorem AllR.mono {T : Type} {At At' : T → List Value → Prop} (hm : ∀ t c, At t c → At' t c) : ∀ {l : List T} {cs : List (List Value)}, AllR At l cs → AllR At' l cs
  | [], [], _ => trivial
  | t :: ts, c :: cs, h => ⟨hm t c h.1, AllR.mono hm h.2⟩
  | [], _ :: _, h => h.elim
  | _ :: _, [], h => h.elim
theorem AllR.snoc {T : Type} {At : T → List Value → Prop} {t : T} {c : List Value} (ht : At t c) : ∀ {l : List T} {cs : List (List Value)}, AllR At l cs → AllR At (l ++ [t]) (cs ++ [c])
  | [], [], _ => ⟨ht, trivial⟩
  | u :: us, d :: ds, h => ⟨h.1, AllR.snoc ht h.2⟩
  | [], _ :: _, h => h.elim
  | _ :: _, [], h => h.elim
theorem AllR.at {T : Type} {At : T → List Value → Prop} : ∀ {l : List T} {cs : List (List Value)} {i : Nat} {t : T}, AllR At l cs → l[i]? = some t → ∃ c, cs[i]? = some c ∧ At t c
  | [], [], _, _, _, h => by simp at h
  | t :: ts, c :: cs, 0, u, h, hi => by simp at hi; subst hi; exact ⟨c, by simp, h.1⟩
  | t :: ts, c :: cs, i + 1, u, h, hi => by simpa using AllR.at h.2 (by simpa using hi)
  | [], _ :: _, _, _, h, _ => h.elim
  | _ :: _, [], _, _, h, _ => h.elim
/-- a row of edges -/
theorem eds_of {p : Nat → Prop} {w : World} {M : Int} {B : Nat} {a : Option Addr} {n c : Nat} {l : List Ed} {cs : List (List Value)} (h : OwnR 89 10 B (.slice a n c) cs w) (ha : AllR (EdC p w M) l cs) (hp : ∀ g, a = some ⟨g, 0, none⟩ → p g) : EdsIn p w l a := by
  obtain ⟨a', c', e, _, _, h3⟩ := h.shape
  simp at e
  obtain ⟨rfl, rfl, rfl⟩ := e
  rcases h3 with h3 | ⟨g, rfl, h4, h5, h6, h7⟩
  · subst h3
    have := ha.len
    exact .inl (List.eq_nil_of_length_eq_zero (by simpa using this.symm))
  · refine .inr ⟨g, 0, rfl, hp g rfl, h5, fun i t ht => ?_⟩
    obtain ⟨cc, hcc, a1, n1, a2, n2, e1, e2, _⟩ := ha.at ht
    rw [Nat.zero_add]
    have hcell : ∀ j, j < 10 → w.cell? ⟨g, i * 10 + j, none⟩ = (t.cells a1 n1 a2 n2)[j]? := fun j hj => by rw [h6 i j cc hcc hj, e1]
    subst e1
    exact ⟨a1, n1, a2, n2, ⟨hcell 0 (by omega), hcell 1 (by omega), hcell 2 (by omega), hcell 3 (by omega), hcell 4 (by omega), hcell 5 (by omega), hcell 6 (by omega), hcell 7 (by omega), hcell 8 (by omega), hcell 9 (by omega)⟩, e2⟩
/-- two cells that are a process -/
def PrC (p : Nat → Prop) (w : World) (q : Pr) (c : List Value) : Prop := ∃ a n, c = [.int .i64 q.locs, .slice a q.edges.length n] ∧ PrIn p w q (.agg c.toArray) ∧ (q.edges ≠ [] → ∀ g, a = some g → ∀ j, w.frozen? ⟨g.block, j, none⟩ = false)
theorem prs_of {p : Nat → Prop} {w : World} {B : Nat} {a : Option Addr} {n c : Nat} {l : List Pr} {cs : List (List Value)} (h : OwnR 82 2 B (.slice a n c) cs w) (ha : AllR (PrC p w) l cs) (hp : ∀ g, a = some ⟨g, 0, none⟩ → p g) : PrsIn p w l a := by
  obtain ⟨a', c', e, _, _, h3⟩ := h.shape
  simp at e
  obtain ⟨rfl, rfl, rfl⟩ := e
  rcases h3 with h3 | ⟨g, rfl, h4, h5, h6, h7⟩
  · subst h3
    have := ha.len
    exact .inl (List.eq_nil_of_length_eq_zero (by simpa using this.symm))
  · refine .inr ⟨g, 0, rfl, hp g rfl, h5, fun i t ht => ?_⟩
    obtain ⟨cc, hcc, a1, n1, e1, e2, _⟩ := ha.at ht
    rw [Nat.zero_add]
    have hcell : ∀ j, j < 2 → w.cell? ⟨g, i * 2 + j, none⟩ = ([.int .i64 t.locs, .slice a1 t.edges.length n1] : List Value)[j]? := fun j hj => by rw [h6 i j cc hcc hj, e1]
    subst e1
    exact ⟨a1, n1, ⟨hcell 0 (by omega), hcell 1 (by omega)⟩, e2⟩
end Go.Proofs.Ytdmieedfddgmjaa
namespace Go.Proofs.Ytdmieedfddgmjaa
open Go.RowKit
set_option linter.unusedVariables false
set_option linter.unusedSimpArgs false

/-- two cells that are a process -/
def PrC0 (p : Nat → Prop) (w : World) (q : Pr) (c : List Value) : Prop := ∃ a n, c = [.int .i64 q.locs, .slice a q.edges.length n] ∧ PrIn p w q (.agg c.toArray)
theorem PrC0.frame {p : Nat → Prop} {w w' : World} {q : Pr} {c : List Value} (h : PrC0 p w q c) (hb : Below w.heap.size w w') : PrC0 p w' q c := by
  obtain ⟨a, n, h1, h2⟩ := h
  exact ⟨a, n, h1, h2.below hb⟩
theorem prs_cells {p : Nat → Prop} {w : World} {b : Nat} : ∀ (l : List Pr) (o : Nat), (∀ i t, l[i]? = some t → PrAt p w t b (o + i * 2)) → ∃ cs : List (List Value), AllR (PrC0 p w) l cs ∧ ∀ j u, cs.flatten[j]? = some u → w.cell? ⟨b, o + j, none⟩ = some u
  | [], o, _ => ⟨[], trivial, by simp⟩
  | q :: qs, o, h => by
    obtain ⟨a, n, ⟨h0, h1⟩, h2⟩ := h 0 q (by simp)
    obtain ⟨cs, k1, k2⟩ := prs_cells qs (o + 2) (fun i t hi => by
      have := h (i + 1) t (by simpa using hi)
      rw [show o + (i + 1) * 2 = o + 2 + i * 2 by omega] at this
      exact this)
    refine ⟨[.int .i64 q.locs, .slice a q.edges.length n] :: cs, ⟨⟨a, n, rfl, h2⟩, k1⟩, fun j u hj => ?_⟩
    match j, hj with
    | 0, hj => simp at hj; subst hj; simpa using h0
    | 1, hj => simp at hj; subst hj; simpa using h1
    | j + 2, hj =>
      have := k2 j u (by simpa using hj)
      rw [show o + (j + 2) = o + 2 + j by omega]
      exact this
theorem prc0_len {p : Nat → Prop} {w : World} {l : List Pr} {cs : List (List Value)} (h : AllR (PrC0 p w) l cs) : ∀ c, c ∈ cs → c.length = 2 := by
  intro c hc
  obtain ⟨i, hi⟩ := List.mem_iff_getElem?.1 hc
  have hl : i < l.length := by have := (List.getElem?_eq_some_iff.1 hi).1; rw [h.len] at this; exact this
  obtain ⟨c', h1, a, n, h2, _⟩ := h.at (List.getElem?_eq_getElem hl)
  rw [hi] at h1
  cases h1
  rw [h2]
  rfl
theorem prc0_one {p : Nat → Prop} {w : World} {l : List Pr} {cs : List (List Value)} (h : AllR (PrC0 p w) l cs) : ∀ u, u ∈ cs.flatten → u.oneCell' = true := by
  intro u hu
  obtain ⟨c, hc, huc⟩ := List.mem_flatten.1 hu
  obtain ⟨i, hi⟩ := List.mem_iff_getElem?.1 hc
  have hl : i < l.length := by have := (List.getElem?_eq_some_iff.1 hi).1; rw [h.len] at this; exact this
  obtain ⟨c', h1, a, n, h2, _⟩ := h.at (List.getElem?_eq_getElem hl)
  rw [hi] at h1
  cases h1
  rw [h2] at huc
  simp at huc
  rcases huc with rfl | rfl <;> rfl
/-- append of a row of processes -/
theorem wp_app_procs {ops : Array Oper} {rest : List Oper} {o : Oper} {a : Act} {Q : Exit → Act → World → Prop} {w : World} (hgd : o.guard = none) (s x : Operand)
    (ho : o.op = .call { callee := .builtin .append, args := #[s, x], argTypes := #[61, 61] }) (B : Nat) (v : Value) (acc cs : List (List Value)) (m b off c : Nat) (hs : a.eval s = v) (hx : a.eval x = .slice (some ⟨b, off, none⟩) m c)
    (hv : OwnR 82 2 B v acc w) (hB : B ≤ w.heap.size) (hm : cs.length = m) (hcl : ∀ c, c ∈ cs → c.length = 2) (hone : ∀ u, u ∈ cs.flatten → u.oneCell' = true) (hl : ∀ j u, cs.flatten[j]? = some u → w.cell? ⟨b, off + j, none⟩ = some u) (h1 : acc.length + m ≤ 100000)
    (h : ∀ v' w', OwnR 82 2 B v' (acc ++ cs) w' → w.grownBy w' v.ownBlock → (v'.ownBlock = v.ownBlock ∨ v'.ownBlock = some w.heap.size) → wpList Try.prog ops Q rest (a.put o.dst v') w') :
    wpList Try.prog ops Q (o :: rest) a w := by
  obtain ⟨ri, hi, hz, hs1, hs2⟩ := info_parts proc_info
  refine wpList_append_own_at _ hgd s x 61 ho B 82 ri _ 2 32 Try.underlying61 hi hz hs1 hs2 rfl (by omega) v acc.length _ hs hv.1 ⟨b, off, none⟩ m c cs.flatten hx (by rw [flat_len cs hcl, hm]) (fun j u hj => ?_) hone (by simp only [maxLen]; omega) (by omega) hB ?_
  · have e : Addr.add ⟨b, off, none⟩ j = ⟨b, off + j, none⟩ := by unfold Addr.add; split <;> simp_all
    rw [e]
    exact hl j u hj
  · intro v2 w3 hown hgrow _ hblk
    refine h v2 w3 ⟨?_, fun c hc => ?_⟩ hgrow hblk
    · rw [List.length_append, List.flatten_append, hm]; exact hown
    · rcases List.mem_append.1 hc with h | h
      · exact hv.2 c h
      · exact hcl c h
theorem OwnR.made (w : World) : OwnR 82 2 w.heap.size (.slice (some ⟨w.heap.size, 0, none⟩) 0 0) [] (w.alloc (.cells #[] 82)) :=
  ⟨World.ownsRow_made (e := 82) (size := 2) (base := w.heap.size) w #[] 0 (Nat.le_refl _) (by simp) (by simp), by simp⟩
theorem prs_of0 {p : Nat → Prop} {w : World} {B : Nat} {a : Option Addr} {n c : Nat} {l : List Pr} {cs : List (List Value)} (h : OwnR 82 2 B (.slice a n c) cs w) (ha : AllR (PrC0 p w) l cs) (hp : ∀ g, a = some ⟨g, 0, none⟩ → p g) : PrsIn p w l a := by
  obtain ⟨a', c', e, _, _, h3⟩ := h.shape
  simp at e
  obtain ⟨rfl, rfl, rfl⟩ := e
  rcases h3 with h3 | ⟨g, rfl, h4, h5, h6, h7⟩
  · subst h3
    have := ha.len
    exact .inl (List.eq_nil_of_length_eq_zero (by simpa using this.symm))
  · refine .inr ⟨g, 0, rfl, hp g rfl, h5, fun i t ht => ?_⟩
    obtain ⟨cc, hcc, a1, n1, e1, e2⟩ := ha.at ht
    rw [Nat.zero_add]
    have hcell : ∀ j, j < 2 → w.cell? ⟨g, i * 2 + j, none⟩ = ([.int .i64 t.locs, .slice a1 t.edges.length n1] : List Value)[j]? := fun j hj => by rw [h6 i j cc hcc hj, e1]
    subst e1
    exact ⟨a1, n1, ⟨hcell 0 (by omega), hcell 1 (by omega)⟩, e2⟩
theorem cell_bel {w w' : World} (h : Below w.heap.size w w') {b o : Nat} {v : Value} (hb : b < w.heap.size) (hc : w.cell? ⟨b, o, none⟩ = some v) : w'.cell? ⟨b, o, none⟩ = some v := (World.cell?_of_block (w := w) (a := ⟨b, o, none⟩) (h.block b hb)).trans hc
theorem below_grown2 {w1 W w' : World} {g : Option Nat} (hb : Below w1.heap.size w1 W) (hg : W.grownBy w' g) (h : ∀ k, g = some k → w1.heap.size ≤ k) : Below w1.heap.size w1 w' :=
  ⟨hg.os.trans hb.os, hg.tape.trans hb.tape, hg.output.trans hb.output, Nat.le_trans hb.size hg.size, fun k hk => (hg.block k (Nat.lt_of_lt_of_le hk hb.size) (fun e => by have := h k e.symm; omega)).trans (hb.block k hk)⟩
end Go.Proofs.Ytdmieedfddgmjaa
