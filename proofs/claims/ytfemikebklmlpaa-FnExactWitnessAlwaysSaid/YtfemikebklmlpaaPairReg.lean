/- A region that makes a pair of clones of rows of numbers, in any order; what comes of it. Conditions: those of each theorem. -/
import Derived.Test.YtfemikebklmlpaaRegOrd
import Derived.Test.YtfemikebklmlpaaCloneI
namespace Go.Proofs.Ytfemikebklmlpaa
open Go.RowKit
set_option linter.unusedVariables false
set_option linter.unusedSimpArgs false

/-! ### one step of a tree of orders at a time -/
section
variable {P : Program} {ops : Array Oper} {Q : Exit → Act → World → Prop} {C : World → Prop} {l : List Oper}
theorem ordW_done (a : Act) (w : World) : ordW P ops Q C l .done a w = Q .normal a w := rfl
theorem ordW_one (i : Nat) (r : Ord) (a : Act) (w : World) : ordW P ops Q C l (.one i r) a w = wpList P ops (Exit.then (fun a' w' => C w' ∧ ordW P ops Q C l r a' w') Q) (pick l [i]) a w := rfl
theorem ordW_fre (i : Nat) (r : Ord) (a : Act) (w : World) : ordW P ops Q C l (.fre i r) a w = wpList P ops (Exit.then (fun a' w' => ordW P ops Q C l r a' w') Q) (pick l [i]) a w := rfl
theorem ordW_two (i j : Nat) (r s : Ord) (a : Act) (w : World) : ordW P ops Q C l (.two i j r s) a w = (wpList P ops (Exit.then (fun a' w' => C w' ∧ ordW P ops Q C l r a' w') Q) (pick l [i]) a w ∧ wpList P ops (Exit.then (fun a' w' => C w' ∧ ordW P ops Q C l s a' w') Q) (pick l [j]) a w) := rfl
theorem ordW_thr (i j k : Nat) (r s t : Ord) (a : Act) (w : World) : ordW P ops Q C l (.thr i j k r s t) a w = (wpList P ops (Exit.then (fun a' w' => C w' ∧ ordW P ops Q C l r a' w') Q) (pick l [i]) a w ∧ wpList P ops (Exit.then (fun a' w' => C w' ∧ ordW P ops Q C l s a' w') Q) (pick l [j]) a w ∧ wpList P ops (Exit.then (fun a' w' => C w' ∧ ordW P ops Q C l t a' w') Q) (pick l [k]) a w) := rfl
end

/-! ### worlds in which some blocks are as they were: 'w.overP S x' -/
structure KeepP (S : List Nat) (w w' : World) : Prop where
  size : w.heap.size ≤ w'.heap.size
  block : ∀ b, b ∈ S → b < w.heap.size → w'.heap[b]? = w.heap[b]?
def OverP (w : World) (S : List Nat) : Type := { w' : World // KeepP S w w' }
def _root_.Go.World.overP (w : World) (S : List Nat) (x : OverP w S) : World := x.1
instance overP_some (w : World) (S : List Nat) : Nonempty (OverP w S) := ⟨⟨w, Nat.le_refl _, fun _ _ _ => rfl⟩⟩
theorem KeepP.ex {S : List Nat} {w w' : World} (h : KeepP S w w') : ∃ x, w' = w.overP S x := ⟨⟨w', h⟩, rfl⟩
@[go_sem] theorem overP_cell (w : World) (S : List Nat) (x : OverP w S) (b o : Nat) (h : b ∈ S) (hb : b < w.heap.size) : (w.overP S x).cell? ⟨b, o, none⟩ = w.cell? ⟨b, o, none⟩ := World.cell?_of_block (w := w) (x.2.block b h hb)
theorem KeepP.refl (S : List Nat) (w : World) : KeepP S w w := ⟨Nat.le_refl _, fun _ _ _ => rfl⟩
theorem KeepP.drew {S : List Nat} {w w' : World} (h : KeepP S w w') : KeepP S w w'.drew := ⟨h.size, h.block⟩
theorem KeepP.trans {S : List Nat} {a b c : World} (h : KeepP S a b) (k : KeepP S b c) : KeepP S a c := ⟨Nat.le_trans h.size k.size, fun q h1 h2 => (k.block q h1 (Nat.lt_of_lt_of_le h2 h.size)).trans (h.block q h1 h2)⟩
theorem KeepP.below {S : List Nat} {w w' : World} (h : Below w.heap.size w w') : KeepP S w w' := ⟨h.size, fun b _ hb => h.block b hb⟩
theorem KeepP.but {S : List Nat} {w w' : World} {R : Nat} (h : But w R w') (hR : R ∉ S) : KeepP S w w' := ⟨h.size, fun b hS hb => h.block b hb (fun e => hR (e ▸ hS))⟩
theorem KeepP.grown {S : List Nat} {w w' : World} {g : Option Nat} (h : w.grownBy w' g) (hg : ∀ b, b ∈ S → g ≠ some b) : KeepP S w w' := ⟨h.size, fun b hS hb => h.block b hb (fun e => hg b hS e.symm)⟩
theorem KeepP.set {S : List Nat} {w w' : World} (h : KeepP S w w') {a : Addr} (ha : a.block ∉ S) (v : Value) : KeepP S w (w'.setCell a v) := ⟨by simpa using h.size, fun b hS hb => by rw [Below.heap_setCell _ _ _ _ (fun e => ha (e ▸ hS))]; exact h.block b hS hb⟩
attribute [irreducible] World.overP OverP

/-! ### a growing row of numbers, in other worlds -/
theorem OwnI.keep {B : Nat} {v : Value} {l : List Int} {w w' : World} (h : OwnI B v l w) (hb : ∀ g, v.ownBlock = some g → B ≤ g → g < w.heap.size → w'.heap[g]? = w.heap[g]?) : OwnI B v l w' := by
  refine ⟨h.1, ?_⟩
  rcases h.2 with h2 | ⟨g, cap, cur, rfl, e2, e3, e4⟩
  · exact .inl h2
  · exact .inr ⟨g, cap, cur, rfl, e2, (hb g rfl e2 (Array.getElem?_eq_some_iff.1 e3).1).trans e3, e4⟩
theorem OwnI.next {B : Nat} {v : Value} {l : List Int} {w w' : World} (h : OwnI B v l w) (hb : Below w.heap.size w w') : OwnI B v l w' := h.keep fun g _ _ hl => hb.block g hl
theorem OwnI.but {B R : Nat} {v : Value} {l : List Int} {w w' : World} (h : OwnI B v l w) (hb : But w R w') (hR : R < B) : OwnI B v l w' := h.keep fun g _ h1 hl => hb.block g hl (by omega)
theorem OwnI.mono {B B' : Nat} {v : Value} {l : List Int} {w : World} (h : OwnI B v l w) (hB : B' ≤ B) : OwnI B' v l w := by
  refine ⟨h.1, ?_⟩
  rcases h.2 with h2 | ⟨g, cap, cur, e1, e2, e3⟩
  · exact .inl h2
  · exact .inr ⟨g, cap, cur, e1, Nat.le_trans hB e2, e3⟩
theorem OwnI.blk {B : Nat} {v : Value} {l : List Int} {w : World} (h : OwnI B v l w) : ∀ g, v.ownBlock = some g → B ≤ g ∧ g < w.heap.size := by
  intro g hg
  rcases h.2 with ⟨rfl, _⟩ | ⟨g', cap, cur, rfl, e2, e3, e4⟩
  · simp [Value.ownBlock] at hg
  · simp [Value.ownBlock] at hg
    subst hg
    exact ⟨e2, (Array.getElem?_eq_some_iff.1 e3).1⟩
/-- but for a source's block R and blocks from B on, all is as it was; a row of one's own has grown -/
theorem But.own {B R : Nat} {w wr w' : World} {v : Value} {l : List Int} (hb : But w R wr) (hv : OwnI B v l wr) (hB : w.heap.size ≤ B) (hg : wr.grownBy w' v.ownBlock) : But w R w' :=
  ⟨hg.os.trans hb.os, hg.tape.trans hb.tape, hg.output.trans hb.output, Nat.le_trans hb.size hg.size, fun k hk hd => by
    rw [hg.block k (Nat.lt_of_lt_of_le hk hb.size) (fun e => by have := (hv.blk k e.symm).1; omega), hb.block k hk hd]⟩
theorem below_own {B : Nat} {w wr w' : World} {v : Value} {l : List Int} (hb : Below w.heap.size w wr) (hv : OwnI B v l wr) (hB : w.heap.size ≤ B) (hg : wr.grownBy w' v.ownBlock) : Below w.heap.size w w' :=
  ⟨hg.os.trans hb.os, hg.tape.trans hb.tape, hg.output.trans hb.output, Nat.le_trans hb.size hg.size, fun k hk => by
    rw [hg.block k (Nat.lt_of_lt_of_le hk hb.size) (fun e => by have := (hv.blk k e.symm).1; omega), hb.block k hk]⟩
theorem OwnI.shape {B : Nat} {v : Value} {l : List Int} {w : World} (h : OwnI B v l w) : ∃ a c, v = .slice a l.length c ∧ l.length ≤ c ∧ c ≤ maxLen ∧ (a = none → c = 0) := by
  rcases h.row with ⟨rfl, rfl⟩ | ⟨g, c, rfl, h1, h2, h3, h4⟩
  · exact ⟨none, 0, rfl, Nat.le_refl _, by unfold maxLen; omega, fun _ => rfl⟩
  · exact ⟨_, c, rfl, h2, h3, fun e => by cases e⟩
theorem OwnI.ints2 {B : Nat} {a : Option Addr} {n c : Nat} {l : List Int} {w : World} (h : OwnI B (.slice a n c) l w) (hi : ∀ n, n ∈ l → i64 n) : IntsIn Any w a l := by
  rcases h.row with ⟨rfl, _⟩ | ⟨g, c', e, h1, h2, h3, h4⟩
  · exact ⟨.inl rfl, hi⟩
  · simp at e
    obtain ⟨rfl, _, _⟩ := e
    refine ⟨.inr ⟨g, 0, rfl, trivial, h4.1, fun i v hv => ?_⟩, hi⟩
    have hlt : i < l.length := by have := (List.getElem?_eq_some_iff.1 hv).1; simpa using this
    rw [Nat.zero_add, h4.2.1 i hlt]
    show some ((l.map (Value.int .i64)).getD i undef) = _
    rw [List.getD_eq_getElem?_getD, hv]; rfl
theorem OwnI.set {B : Nat} {v : Value} {l : List Int} {w : World} (h : OwnI B v l w) {a : Addr} (ha : ∀ g, v.ownBlock = some g → B ≤ g → g ≠ a.block) (u : Value) : OwnI B v l (w.setCell a u) :=
  h.keep fun g h1 h2 _ => Below.heap_setCell _ _ _ _ (ha g h1 h2)

theorem OwnI.grow {B g g' n c : Nat} {l : List Int} {w w' : World} (h : OwnI B (.slice (some ⟨g, 0, none⟩) n c) l w) (hg : w.grownBy w' (some g')) (hne : g ≠ g') : OwnI B (.slice (some ⟨g, 0, none⟩) n c) l w' :=
  h.keep fun b h1 _ h3 => hg.block b h3 (fun e => by simp [Value.ownBlock] at h1; simp at e; omega)
/-- append to an empty row just made, at the operation: the clone of a row; where it lies -/
theorem wp_app_clone {ops : Array Oper} {rest : List Oper} {o : Oper} {a : Act} {Q : Exit → Act → World → Prop} {w : World} (hgd : o.guard = none) (s x : Operand)
    (ho : o.op = .call { callee := .builtin .append, args := #[s, x], argTypes := #[30, 30] }) (g : Nat) (l : List Int) (ad : Option Addr) (c : Nat) (hs : a.eval s = .slice (some ⟨g, 0, none⟩) 0 0) (hx : a.eval x = .slice ad l.length c)
    (hv : OwnI g (.slice (some ⟨g, 0, none⟩) 0 0) [] w) (hB : g < w.heap.size) (hn : ad = none → c = 0) (hl : IntsIn Any w ad l) (h2 : l.length ≤ 1000000)
    (h : ∀ g' c' w', (g' = g ∨ g' = w.heap.size) → OwnI g (.slice (some ⟨g', 0, none⟩) l.length c') l w' → w.grownBy w' (some g) → g' < w'.heap.size → wpList Try.prog ops Q rest (a.put o.dst (.slice (some ⟨g', 0, none⟩) l.length c')) w') :
    wpList Try.prog ops Q (o :: rest) a w := by
  cases ad with
  | none =>
    obtain rfl : c = 0 := hn rfl
    have hl0 : l = [] := by
      rcases hl.1 with h0 | ⟨b, o', h0, _⟩
      · simpa using h0
      · cases h0
    subst hl0
    exact wp_app_nil hgd s x ho (some ⟨g, 0, none⟩) 0 0 hs hx (Nat.le_refl _) (h g 0 w (.inl rfl) hv (World.grownBy.refl _ _) hB)
  | some ad =>
    obtain ⟨ri, hi, hz, hs1, hs2⟩ := info_parts ints_info
    refine wpList_append_own_at _ hgd s x 30 ho g 3 ri (.int .i64 0) 1 8 Try.underlying30 hi hz hs1 hs2 rfl (by omega) _ 0 _ hs hv ad l.length c (l.map (Value.int .i64)) hx (by simp) (fun j u hj => ?_) (fun u hu => ?_) (by simp only [maxLen]; omega) (by omega) (Nat.le_of_lt hB) ?_
    · rcases hl.1 with h0 | ⟨b, o', h1, h2, h3, h4⟩
      · rw [h0] at hj; simp at hj
      · obtain rfl : ad = ⟨b, o', none⟩ := by simpa using h1
        have := h4 j u hj
        have e : Addr.add ⟨b, o', none⟩ j = ⟨b, o' + j, none⟩ := by unfold Addr.add; split <;> simp_all
        rw [e]
        exact this
    · simp at hu
      obtain ⟨n, _, rfl⟩ := hu
      rfl
    · intro v2 w3 hown hgrow hnil hblk
      have ho2 : OwnI g v2 l w3 := by unfold OwnI; simpa using hown
      rcases ho2.row with ⟨rfl, rfl⟩ | ⟨g', c', rfl, h1, h3, h4, h5⟩
      · simp at hnil
      · exact h g' c' w3 (by simpa [Value.ownBlock] using hblk) ho2 (by simpa [Value.ownBlock] using hgrow) h5.1

/-- append of numbers to a row of one's own, at the operation; where the result lies -/
theorem wp_app_own2 {ops : Array Oper} {rest : List Oper} {o : Oper} {a : Act} {Q : Exit → Act → World → Prop} {w : World} (hgd : o.guard = none) (s x : Operand)
    (ho : o.op = .call { callee := .builtin .append, args := #[s, x], argTypes := #[30, 30] }) (B : Nat) (v : Value) (acc l : List Int) (ad : Option Addr) (c : Nat) (hs : a.eval s = v) (hx : a.eval x = .slice ad l.length c) (hn : ad = none → c = 0)
    (hv : OwnI B v acc w) (hB : B ≤ w.heap.size) (hl : IntsIn Any w ad l) (h1 : acc.length ≤ 1000000) (h2 : l.length ≤ 1000000)
    (h : ∀ v' w', OwnI B v' (acc ++ l) w' → w.grownBy w' v.ownBlock → (v'.ownBlock = v.ownBlock ∨ v'.ownBlock = some w.heap.size) → wpList Try.prog ops Q rest (a.put o.dst v') w') :
    wpList Try.prog ops Q (o :: rest) a w := by
  cases ad with
  | none =>
    obtain rfl : c = 0 := hn rfl
    have hl0 : l = [] := by
      rcases hl.1 with h0 | ⟨b, o', h0, _⟩
      · simpa using h0
      · cases h0
    subst hl0
    have hsh : ∃ b n c, v = .slice b n c ∧ n ≤ c := by
      rcases hv.2 with ⟨rfl, _⟩ | ⟨g, cap, cur, rfl, _, _, hc, _⟩
      · exact ⟨_, _, _, rfl, Nat.le_refl _⟩
      · exact ⟨_, _, _, rfl, hc⟩
    obtain ⟨b, n, c, rfl, hc⟩ := hsh
    exact wp_app_nil hgd s x ho b n c hs hx hc (h _ _ (by simpa using hv) (World.grownBy.refl _ _) (.inl rfl))
  | some ad =>
    obtain ⟨ri, hi, hz, hs1, hs2⟩ := info_parts ints_info
    refine wpList_append_own_at _ hgd s x 30 ho B 3 ri (.int .i64 0) 1 8 Try.underlying30 hi hz hs1 hs2 rfl (by omega) v acc.length _ hs hv ad l.length c (l.map (Value.int .i64)) hx (by simp) (fun j u hj => ?_) (fun u hu => ?_) (by simp only [maxLen]; omega) (by omega) hB ?_
    · rcases hl.1 with h0 | ⟨b, o', h1, h2, h3, h4⟩
      · rw [h0] at hj; simp at hj
      · obtain rfl : ad = ⟨b, o', none⟩ := by simpa using h1
        have := h4 j u hj
        have e : Addr.add ⟨b, o', none⟩ j = ⟨b, o' + j, none⟩ := by unfold Addr.add; split <;> simp_all
        rw [e]
        exact this
    · simp at hu
      obtain ⟨n, _, rfl⟩ := hu
      rfl
    · intro v2 w3 hown hgrow _ hblk
      exact h v2 w3 (by unfold OwnI; rw [List.length_append, List.map_append]; exact hown) hgrow hblk

/-- a variable of two slices -/
abbrev BoxP (w : World) (B : Nat) (a b : Value) : Prop := B < w.heap.size ∧ w.cell? ⟨B, 0, none⟩ = some a ∧ w.cell? ⟨B, 1, none⟩ = some b ∧ w.frozen? ⟨B, 0, none⟩ = false ∧ w.frozen? ⟨B, 1, none⟩ = false
/-- two clones of rows, in a variable: all in new memory, each in a block of its own -/
structure Cl2 (W : World) (s l : List Int) (O : Nat) (vs vl : Value) (w : World) : Prop where
  own : OwnI W.heap.size vs s w
  own2 : OwnI W.heap.size vl l w
  box : BoxP w O vs vl
  new : W.heap.size ≤ O
  ne1 : ∀ g, vs.ownBlock = some g → g ≠ O
  ne2 : ∀ g, vl.ownBlock = some g → g ≠ O
  ne : ∀ g, vs.ownBlock = some g → vl.ownBlock ≠ some g
  below : Below W.heap.size W w
theorem boxp_next {w w' : World} (h : Below w.heap.size w w') {B : Nat} {a b : Value} (hb : BoxP w B a b) : BoxP w' B a b :=
  ⟨Nat.lt_of_lt_of_le hb.1 h.size, by rw [h.cell (p := ⟨B, 0, none⟩) hb.1]; exact hb.2.1, by rw [h.cell (p := ⟨B, 1, none⟩) hb.1]; exact hb.2.2.1,
    by rw [h.frozen (p := ⟨B, 0, none⟩) hb.1]; exact hb.2.2.2.1, by rw [h.frozen (p := ⟨B, 1, none⟩) hb.1]; exact hb.2.2.2.2⟩
theorem boxp_at {w : World} {B : Nat} {a b : Value} {t : TypeId} (h : B = w.heap.size) : BoxP (w.alloc (.cells #[a, b] t)) B a b := by subst h; exact ⟨by simp, by simp, by simp, by simp, by simp⟩
theorem boxp_keep {w w' : World} {B : Nat} {a b : Value} (hs : w.heap.size ≤ w'.heap.size) (h : w'.heap[B]? = w.heap[B]?) (hb : BoxP w B a b) : BoxP w' B a b :=
  ⟨Nat.lt_of_lt_of_le hb.1 hs, by rw [World.cell?_of_block (w := w) (a := ⟨B, 0, none⟩) h]; exact hb.2.1, by rw [World.cell?_of_block (w := w) (a := ⟨B, 1, none⟩) h]; exact hb.2.2.1,
    by rw [World.frozen?_of_block (w := w) (a := ⟨B, 0, none⟩) h]; exact hb.2.2.2.1, by rw [World.frozen?_of_block (w := w) (a := ⟨B, 1, none⟩) h]; exact hb.2.2.2.2⟩
theorem boxp_grown {w w' : World} {g B : Nat} {a b : Value} (h : w.grownBy w' (some g)) (hd : B ≠ g) (hb : BoxP w B a b) : BoxP w' B a b := boxp_keep h.size (h.block B hb.1 (fun e => hd (Option.some.inj e))) hb
theorem boxp_but {w w' : World} {D : Nat} (h : But w D w') {B : Nat} {a b : Value} (hd : B ≠ D) (hb : BoxP w B a b) : BoxP w' B a b := boxp_keep h.size (h.block B hb.1 hd) hb
theorem boxp_set0 {w : World} {B : Nat} {a b : Value} (h : BoxP w B a b) (v : Value) : BoxP (w.setCell ⟨B, 0, none⟩ v) B v b :=
  ⟨by simpa using h.1, World.cell?_setCell_same _ _ _ h.2.1, by rw [World.cell?_setCell_other _ _ _ _ (by simp)]; exact h.2.2.1, by simpa using h.2.2.2.1, by simpa using h.2.2.2.2⟩
theorem boxp_set1 {w : World} {B : Nat} {a b : Value} (h : BoxP w B a b) (v : Value) : BoxP (w.setCell ⟨B, 1, none⟩ v) B a v :=
  ⟨by simpa using h.1, by rw [World.cell?_setCell_other _ _ _ _ (by simp)]; exact h.2.1, World.cell?_setCell_same _ _ _ h.2.2.1, by simpa using h.2.2.2.1, by simpa using h.2.2.2.2⟩
theorem boxp_set {w : World} {B : Nat} {a b : Value} (h : BoxP w B a b) {p : Addr} (hd : B ≠ p.block) (v : Value) : BoxP (w.setCell p v) B a b := boxp_keep (by simp) (Below.heap_setCell _ _ _ _ hd) h
theorem Cl2.mk2 {W w : World} {s l : List Int} {O g1 g2 c1 c2 n1 n2 b1 b2 : Nat} {a b : Value} (h1 : OwnI b1 (.slice (some ⟨g1, 0, none⟩) n1 c1) s w) (h2 : OwnI b2 (.slice (some ⟨g2, 0, none⟩) n2 c2) l w) (hb : BoxP w O a b) (k1 : W.heap.size ≤ b1) (k2 : W.heap.size ≤ b2) (kO : W.heap.size ≤ O) (e1 : g1 ≠ O) (e2 : g2 ≠ O) (e : g1 ≠ g2) (hB : Below W.heap.size W w) :
    Cl2 W s l O (.slice (some ⟨g1, 0, none⟩) n1 c1) (.slice (some ⟨g2, 0, none⟩) n2 c2) ((w.setCell ⟨O, 0, none⟩ (.slice (some ⟨g1, 0, none⟩) n1 c1)).setCell ⟨O, 1, none⟩ (.slice (some ⟨g2, 0, none⟩) n2 c2)) where
  own := ((h1.set (fun g h _ => by simp [Value.ownBlock] at h; subst h; exact e1) _).set (fun g h _ => by simp [Value.ownBlock] at h; subst h; exact e1) _).mono k1
  own2 := ((h2.set (fun g h _ => by simp [Value.ownBlock] at h; subst h; exact e2) _).set (fun g h _ => by simp [Value.ownBlock] at h; subst h; exact e2) _).mono k2
  box := boxp_set1 (boxp_set0 hb _) _
  new := kO
  ne1 := fun g h => by simp [Value.ownBlock] at h; subst h; exact e1
  ne2 := fun g h => by simp [Value.ownBlock] at h; subst h; exact e2
  ne := fun g h h' => by simp [Value.ownBlock] at h h'; omega
  below := (hB.setCell kO _).setCell kO _
end Go.Proofs.Ytfemikebklmlpaa
