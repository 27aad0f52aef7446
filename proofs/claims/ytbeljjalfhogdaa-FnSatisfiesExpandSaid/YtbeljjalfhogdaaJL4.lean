/- Joined texts (PairReg, LasWord, LasDraw, More): contracts and plain laws. Conditions: those of each theorem. -/
import Derived.Test.YtbeljjalfhogdaaJL3
import Derived.Test.YtbeljjalfhogdaaJL2
import Derived.Test.YtbeljjalfhogdaaJL1
import Derived.Test.YtbeljjalfhogdaaJL0
namespace Go.Proofs.Ytbeljjalfhogdaa
open Go.RowKit
set_option linter.unusedVariables false
set_option linter.unusedSimpArgs false

/-! ### one step of a tree of orders at a time -/
section
variable {P : Program} {ops : Array Oper} {Q : Exit → Act → World → Prop} {C : World → Prop} {l : List Oper}
theorem ordW_done (a : Act) (w : World) : ordW P ops Q C l .done a w = Q .normal a w := rfl
theorem ordW_one (i : Nat) (r : Ord) (a : Act) (w : World) : ordW P ops Q C l (.one i r) a w = wpList P ops (Exit.then (fun a' w' => C w' ∧ ordW P ops Q C l r a' w') Q) (pick l [i]) a w := rfl
theorem ordW_fre (i : Nat) (r : Ord) (a : Act) (w : World) : ordW P ops Q C l (.fre i r) a w = wpList P ops (Exit.then (fun a' w' => ordW P ops Q C l r a' w') Q) (pick l [i]) a w := rfl
theorem ordW_two (i j : Nat) (r s : Ord) (a : Act) (w : World) : ordW P ops Q C l (.two i j r s) a w = (wpList P ops (Exit.then (fun a' w' => C w' ∧ ordW P ops Q C l r a' w') Q) (pick l [i]) a w ∧ wpList P ops (Exit.then (fun a' w' => C w' ∧ ordW P ops Q C l s a' w') Q) (pick l [j]) a w) := rfl
theorem ordW_thr (i j k : Nat) (r s t : Ord) (a : Act) (w : World) : ordW P ops Q C l (.thr i j k r s t) a w = (wpList P ops (Exit.then (fun a' w' => C w' ∧ ordW P ops Q C l r a' w') Q) (pick l [i]) a w ∧ wpList P ops (Exit.then (fun a' w' => C w' ∧ ordW P ops Q C l s a' w') Q) (pick l [j]) a w ∧ wpList P ops (Exit.then (fun a' w' => C w' ∧ ordW P ops Q C l t a' w') Q) (pick l [k]) a w) := rfl
end

/-! ### worlds in which some blocks are as they were: 'w.overP S x' -/
structure KeepP (S : List Nat) (w w' : World) : Prop where
  size : w.heap.size ≤ w'.heap.size
  block : ∀ b, b ∈ S → b < w.heap.size → w'.heap[b]? = w.heap[b]?
def OverP (w : World) (S : List Nat) : Type := { w' : World // KeepP S w w' }
def _root_.Go.World.overP (w : World) (S : List Nat) (x : OverP w S) : World := x.1
instance overP_some (w : World) (S : List Nat) : Nonempty (OverP w S) := ⟨⟨w, Nat.le_refl _, fun _ _ _ => rfl⟩⟩
theorem KeepP.ex {S : List Nat} {w w' : World} (h : KeepP S w w') : ∃ x, w' = w.overP S x := ⟨⟨w', h⟩, rfl⟩
@[go_sem] theorem overP_cell (w : World) (S : List Nat) (x : OverP w S) (b o : Nat) (h : b ∈ S) (hb : b < w.heap.size) : (w.overP S x).cell? ⟨b, o, none⟩ = w.cell? ⟨b, o, none⟩ := World.cell?_of_block (w := w) (x.2.block b h hb)
theorem KeepP.refl (S : List Nat) (w : World) : KeepP S w w := ⟨Nat.le_refl _, fun _ _ _ => rfl⟩
theorem KeepP.drew {S : List Nat} {w w' : World} (h : KeepP S w w') : KeepP S w w'.drew := ⟨h.size, h.block⟩
theorem KeepP.trans {S : List Nat} {a b c : World} (h : KeepP S a b) (k : KeepP S b c) : KeepP S a c := ⟨Nat.le_trans h.size k.size, fun q h1 h2 => (k.block q h1 (Nat.lt_of_lt_of_le h2 h.size)).trans (h.block q h1 h2)⟩
theorem KeepP.below {S : List Nat} {w w' : World} (h : Below w.heap.size w w') : KeepP S w w' := ⟨h.size, fun b _ hb => h.block b hb⟩
theorem KeepP.but {S : List Nat} {w w' : World} {R : Nat} (h : But w R w') (hR : R ∉ S) : KeepP S w w' := ⟨h.size, fun b hS hb => h.block b hb (fun e => hR (e ▸ hS))⟩
theorem KeepP.grown {S : List Nat} {w w' : World} {g : Option Nat} (h : w.grownBy w' g) (hg : ∀ b, b ∈ S → g ≠ some b) : KeepP S w w' := ⟨h.size, fun b hS hb => h.block b hb (fun e => hg b hS e.symm)⟩
theorem KeepP.set {S : List Nat} {w w' : World} (h : KeepP S w w') {a : Addr} (ha : a.block ∉ S) (v : Value) : KeepP S w (w'.setCell a v) := ⟨by simpa using h.size, fun b hS hb => by rw [Below.heap_setCell _ _ _ _ (fun e => ha (e ▸ hS))]; exact h.block b hS hb⟩
attribute [irreducible] World.overP OverP

/-! ### a growing row of numbers, in other worlds -/
theorem OwnI.keep {B : Nat} {v : Value} {l : List Int} {w w' : World} (h : OwnI B v l w) (hb : ∀ g, v.ownBlock = some g → B ≤ g → g < w.heap.size → w'.heap[g]? = w.heap[g]?) : OwnI B v l w' := by
  refine ⟨h.1, ?_⟩
  rcases h.2 with h2 | ⟨g, cap, cur, rfl, e2, e3, e4⟩
  · exact .inl h2
  · exact .inr ⟨g, cap, cur, rfl, e2, (hb g rfl e2 (Array.getElem?_eq_some_iff.1 e3).1).trans e3, e4⟩
theorem OwnI.next {B : Nat} {v : Value} {l : List Int} {w w' : World} (h : OwnI B v l w) (hb : Below w.heap.size w w') : OwnI B v l w' := h.keep fun g _ _ hl => hb.block g hl
theorem OwnI.but {B R : Nat} {v : Value} {l : List Int} {w w' : World} (h : OwnI B v l w) (hb : But w R w') (hR : R < B) : OwnI B v l w' := h.keep fun g _ h1 hl => hb.block g hl (by omega)
theorem OwnI.mono {B B' : Nat} {v : Value} {l : List Int} {w : World} (h : OwnI B v l w) (hB : B' ≤ B) : OwnI B' v l w := by
  refine ⟨h.1, ?_⟩
  rcases h.2 with h2 | ⟨g, cap, cur, e1, e2, e3⟩
  · exact .inl h2
  · exact .inr ⟨g, cap, cur, e1, Nat.le_trans hB e2, e3⟩
theorem OwnI.blk {B : Nat} {v : Value} {l : List Int} {w : World} (h : OwnI B v l w) : ∀ g, v.ownBlock = some g → B ≤ g ∧ g < w.heap.size := by
  intro g hg
  rcases h.2 with ⟨rfl, _⟩ | ⟨g', cap, cur, rfl, e2, e3, e4⟩
  · simp [Value.ownBlock] at hg
  · simp [Value.ownBlock] at hg
    subst hg
    exact ⟨e2, (Array.getElem?_eq_some_iff.1 e3).1⟩
/-- but for a source's block R and blocks from B on, all is as it was; a row of one's own has grown -/
theorem But.own {B R : Nat} {w wr w' : World} {v : Value} {l : List Int} (hb : But w R wr) (hv : OwnI B v l wr) (hB : w.heap.size ≤ B) (hg : wr.grownBy w' v.ownBlock) : But w R w' :=
  ⟨hg.os.trans hb.os, hg.tape.trans hb.tape, hg.output.trans hb.output, Nat.le_trans hb.size hg.size, fun k hk hd => by
    rw [hg.block k (Nat.lt_of_lt_of_le hk hb.size) (fun e => by have := (hv.blk k e.symm).1; omega), hb.block k hk hd]⟩
theorem below_own {B : Nat} {w wr w' : World} {v : Value} {l : List Int} (hb : Below w.heap.size w wr) (hv : OwnI B v l wr) (hB : w.heap.size ≤ B) (hg : wr.grownBy w' v.ownBlock) : Below w.heap.size w w' :=
  ⟨hg.os.trans hb.os, hg.tape.trans hb.tape, hg.output.trans hb.output, Nat.le_trans hb.size hg.size, fun k hk => by
    rw [hg.block k (Nat.lt_of_lt_of_le hk hb.size) (fun e => by have := (hv.blk k e.symm).1; omega), hb.block k hk]⟩
theorem OwnI.shape {B : Nat} {v : Value} {l : List Int} {w : World} (h : OwnI B v l w) : ∃ a c, v = .slice a l.length c ∧ l.length ≤ c ∧ c ≤ maxLen ∧ (a = none → c = 0) := by
  rcases h.row with ⟨rfl, rfl⟩ | ⟨g, c, rfl, h1, h2, h3, h4⟩
  · exact ⟨none, 0, rfl, Nat.le_refl _, by unfold maxLen; omega, fun _ => rfl⟩
  · exact ⟨_, c, rfl, h2, h3, fun e => by cases e⟩
theorem OwnI.ints2 {B : Nat} {a : Option Addr} {n c : Nat} {l : List Int} {w : World} (h : OwnI B (.slice a n c) l w) (hi : ∀ n, n ∈ l → i64 n) : IntsIn Any w a l := by
  rcases h.row with ⟨rfl, _⟩ | ⟨g, c', e, h1, h2, h3, h4⟩
  · exact ⟨.inl rfl, hi⟩
  · simp at e
    obtain ⟨rfl, _, _⟩ := e
    refine ⟨.inr ⟨g, 0, rfl, trivial, h4.1, fun i v hv => ?_⟩, hi⟩
    have hlt : i < l.length := by have := (List.getElem?_eq_some_iff.1 hv).1; simpa using this
    rw [Nat.zero_add, h4.2.1 i hlt]
    show some ((l.map (Value.int .i64)).getD i undef) = _
    rw [List.getD_eq_getElem?_getD, hv]; rfl
theorem OwnI.set {B : Nat} {v : Value} {l : List Int} {w : World} (h : OwnI B v l w) {a : Addr} (ha : ∀ g, v.ownBlock = some g → B ≤ g → g ≠ a.block) (u : Value) : OwnI B v l (w.setCell a u) :=
  h.keep fun g h1 h2 _ => Below.heap_setCell _ _ _ _ (ha g h1 h2)

theorem OwnI.grow {B g g' n c : Nat} {l : List Int} {w w' : World} (h : OwnI B (.slice (some ⟨g, 0, none⟩) n c) l w) (hg : w.grownBy w' (some g')) (hne : g ≠ g') : OwnI B (.slice (some ⟨g, 0, none⟩) n c) l w' :=
  h.keep fun b h1 _ h3 => hg.block b h3 (fun e => by simp [Value.ownBlock] at h1; simp at e; omega)
/-- append to an empty row just made, at the operation: the clone of a row; where it lies -/
theorem wp_app_clone {ops : Array Oper} {rest : List Oper} {o : Oper} {a : Act} {Q : Exit → Act → World → Prop} {w : World} (hgd : o.guard = none) (s x : Operand)
    (ho : o.op = .call { callee := .builtin .append, args := #[s, x], argTypes := #[23, 23] }) (g : Nat) (l : List Int) (ad : Option Addr) (c : Nat) (hs : a.eval s = .slice (some ⟨g, 0, none⟩) 0 0) (hx : a.eval x = .slice ad l.length c)
    (hv : OwnI g (.slice (some ⟨g, 0, none⟩) 0 0) [] w) (hB : g < w.heap.size) (hn : ad = none → c = 0) (hl : IntsIn Any w ad l) (h2 : l.length ≤ 1000000)
    (h : ∀ g' c' w', (g' = g ∨ g' = w.heap.size) → OwnI g (.slice (some ⟨g', 0, none⟩) l.length c') l w' → w.grownBy w' (some g) → g' < w'.heap.size → wpList Try.prog ops Q rest (a.put o.dst (.slice (some ⟨g', 0, none⟩) l.length c')) w') :
    wpList Try.prog ops Q (o :: rest) a w := by
  cases ad with
  | none =>
    obtain rfl : c = 0 := hn rfl
    have hl0 : l = [] := by
      rcases hl.1 with h0 | ⟨b, o', h0, _⟩
      · simpa using h0
      · cases h0
    subst hl0
    exact wp_app_nil hgd s x ho (some ⟨g, 0, none⟩) 0 0 hs hx (Nat.le_refl _) (h g 0 w (.inl rfl) hv (World.grownBy.refl _ _) hB)
  | some ad =>
    obtain ⟨ri, hi, hz, hs1, hs2⟩ := info_parts ints_info
    refine wpList_append_own_at _ hgd s x 23 ho g 3 ri (.int .i64 0) 1 8 Try.underlying23 hi hz hs1 hs2 rfl (by omega) _ 0 _ hs hv ad l.length c (l.map (Value.int .i64)) hx (by simp) (fun j u hj => ?_) (fun u hu => ?_) (by simp only [maxLen]; omega) (by omega) (Nat.le_of_lt hB) ?_
    · rcases hl.1 with h0 | ⟨b, o', h1, h2, h3, h4⟩
      · rw [h0] at hj; simp at hj
      · obtain rfl : ad = ⟨b, o', none⟩ := by simpa using h1
        have := h4 j u hj
        have e : Addr.add ⟨b, o', none⟩ j = ⟨b, o' + j, none⟩ := by unfold Addr.add; split <;> simp_all
        rw [e]
        exact this
    · simp at hu
      obtain ⟨n, _, rfl⟩ := hu
      rfl
    · intro v2 w3 hown hgrow hnil hblk
      have ho2 : OwnI g v2 l w3 := by unfold OwnI; simpa using hown
      rcases ho2.row with ⟨rfl, rfl⟩ | ⟨g', c', rfl, h1, h3, h4, h5⟩
      · simp at hnil
      · exact h g' c' w3 (by simpa [Value.ownBlock] using hblk) ho2 (by simpa [Value.ownBlock] using hgrow) h5.1

/-- append of numbers to a row of one's own, at the operation; where the result lies -/
theorem wp_app_own2 {ops : Array Oper} {rest : List Oper} {o : Oper} {a : Act} {Q : Exit → Act → World → Prop} {w : World} (hgd : o.guard = none) (s x : Operand)
    (ho : o.op = .call { callee := .builtin .append, args := #[s, x], argTypes := #[23, 23] }) (B : Nat) (v : Value) (acc l : List Int) (ad : Option Addr) (c : Nat) (hs : a.eval s = v) (hx : a.eval x = .slice ad l.length c) (hn : ad = none → c = 0)
    (hv : OwnI B v acc w) (hB : B ≤ w.heap.size) (hl : IntsIn Any w ad l) (h1 : acc.length ≤ 1000000) (h2 : l.length ≤ 1000000)
    (h : ∀ v' w', OwnI B v' (acc ++ l) w' → w.grownBy w' v.ownBlock → (v'.ownBlock = v.ownBlock ∨ v'.ownBlock = some w.heap.size) → wpList Try.prog ops Q rest (a.put o.dst v') w') :
    wpList Try.prog ops Q (o :: rest) a w := by
  cases ad with
  | none =>
    obtain rfl : c = 0 := hn rfl
    have hl0 : l = [] := by
      rcases hl.1 with h0 | ⟨b, o', h0, _⟩
      · simpa using h0
      · cases h0
    subst hl0
    have hsh : ∃ b n c, v = .slice b n c ∧ n ≤ c := by
      rcases hv.2 with ⟨rfl, _⟩ | ⟨g, cap, cur, rfl, _, _, hc, _⟩
      · exact ⟨_, _, _, rfl, Nat.le_refl _⟩
      · exact ⟨_, _, _, rfl, hc⟩
    obtain ⟨b, n, c, rfl, hc⟩ := hsh
    exact wp_app_nil hgd s x ho b n c hs hx hc (h _ _ (by simpa using hv) (World.grownBy.refl _ _) (.inl rfl))
  | some ad =>
    obtain ⟨ri, hi, hz, hs1, hs2⟩ := info_parts ints_info
    refine wpList_append_own_at _ hgd s x 23 ho B 3 ri (.int .i64 0) 1 8 Try.underlying23 hi hz hs1 hs2 rfl (by omega) v acc.length _ hs hv ad l.length c (l.map (Value.int .i64)) hx (by simp) (fun j u hj => ?_) (fun u hu => ?_) (by simp only [maxLen]; omega) (by omega) hB ?_
    · rcases hl.1 with h0 | ⟨b, o', h1, h2, h3, h4⟩
      · rw [h0] at hj; simp at hj
      · obtain rfl : ad = ⟨b, o', none⟩ := by simpa using h1
        have := h4 j u hj
        have e : Addr.add ⟨b, o', none⟩ j = ⟨b, o' + j, none⟩ := by unfold Addr.add; split <;> simp_all
        rw [e]
        exact this
    · simp at hu
      obtain ⟨n, _, rfl⟩ := hu
      rfl
    · intro v2 w3 hown hgrow _ hblk
      exact h v2 w3 (by unfold OwnI; rw [List.length_append, List.map_append]; exact hown) hgrow hblk

/-- a variable of two slices -/
abbrev BoxP (w : World) (B : Nat) (a b : Value) : Prop := B < w.heap.size ∧ w.cell? ⟨B, 0, none⟩ = some a ∧ w.cell? ⟨B, 1, none⟩ = some b ∧ w.frozen? ⟨B, 0, none⟩ = false ∧ w.frozen? ⟨B, 1, none⟩ = false
/-- two clones of rows, in a variable: all in new memory, each in a block of its own -/
structure Cl2 (W : World) (s l : List Int) (O : Nat) (vs vl : Value) (w : World) : Prop where
  own : OwnI W.heap.size vs s w
  own2 : OwnI W.heap.size vl l w
  box : BoxP w O vs vl
  new : W.heap.size ≤ O
  ne1 : ∀ g, vs.ownBlock = some g → g ≠ O
  ne2 : ∀ g, vl.ownBlock = some g → g ≠ O
  ne : ∀ g, vs.ownBlock = some g → vl.ownBlock ≠ some g
  below : Below W.heap.size W w
theorem boxp_next {w w' : World} (h : Below w.heap.size w w') {B : Nat} {a b : Value} (hb : BoxP w B a b) : BoxP w' B a b :=
  ⟨Nat.lt_of_lt_of_le hb.1 h.size, by rw [h.cell (p := ⟨B, 0, none⟩) hb.1]; exact hb.2.1, by rw [h.cell (p := ⟨B, 1, none⟩) hb.1]; exact hb.2.2.1,
    by rw [h.frozen (p := ⟨B, 0, none⟩) hb.1]; exact hb.2.2.2.1, by rw [h.frozen (p := ⟨B, 1, none⟩) hb.1]; exact hb.2.2.2.2⟩
theorem boxp_at {w : World} {B : Nat} {a b : Value} {t : TypeId} (h : B = w.heap.size) : BoxP (w.alloc (.cells #[a, b] t)) B a b := by subst h; exact ⟨by simp, by simp, by simp, by simp, by simp⟩
theorem boxp_keep {w w' : World} {B : Nat} {a b : Value} (hs : w.heap.size ≤ w'.heap.size) (h : w'.heap[B]? = w.heap[B]?) (hb : BoxP w B a b) : BoxP w' B a b :=
  ⟨Nat.lt_of_lt_of_le hb.1 hs, by rw [World.cell?_of_block (w := w) (a := ⟨B, 0, none⟩) h]; exact hb.2.1, by rw [World.cell?_of_block (w := w) (a := ⟨B, 1, none⟩) h]; exact hb.2.2.1,
    by rw [World.frozen?_of_block (w := w) (a := ⟨B, 0, none⟩) h]; exact hb.2.2.2.1, by rw [World.frozen?_of_block (w := w) (a := ⟨B, 1, none⟩) h]; exact hb.2.2.2.2⟩
theorem boxp_grown {w w' : World} {g B : Nat} {a b : Value} (h : w.grownBy w' (some g)) (hd : B ≠ g) (hb : BoxP w B a b) : BoxP w' B a b := boxp_keep h.size (h.block B hb.1 (fun e => hd (Option.some.inj e))) hb
theorem boxp_but {w w' : World} {D : Nat} (h : But w D w') {B : Nat} {a b : Value} (hd : B ≠ D) (hb : BoxP w B a b) : BoxP w' B a b := boxp_keep h.size (h.block B hb.1 hd) hb
theorem boxp_set0 {w : World} {B : Nat} {a b : Value} (h : BoxP w B a b) (v : Value) : BoxP (w.setCell ⟨B, 0, none⟩ v) B v b :=
  ⟨by simpa using h.1, World.cell?_setCell_same _ _ _ h.2.1, by rw [World.cell?_setCell_other _ _ _ _ (by simp)]; exact h.2.2.1, by simpa using h.2.2.2.1, by simpa using h.2.2.2.2⟩
theorem boxp_set1 {w : World} {B : Nat} {a b : Value} (h : BoxP w B a b) (v : Value) : BoxP (w.setCell ⟨B, 1, none⟩ v) B a v :=
  ⟨by simpa using h.1, by rw [World.cell?_setCell_other _ _ _ _ (by simp)]; exact h.2.1, World.cell?_setCell_same _ _ _ h.2.2.1, by simpa using h.2.2.2.1, by simpa using h.2.2.2.2⟩
theorem boxp_set {w : World} {B : Nat} {a b : Value} (h : BoxP w B a b) {p : Addr} (hd : B ≠ p.block) (v : Value) : BoxP (w.setCell p v) B a b := boxp_keep (by simp) (Below.heap_setCell _ _ _ _ hd) h
theorem Cl2.mk2 {W w : World} {s l : List Int} {O g1 g2 c1 c2 n1 n2 b1 b2 : Nat} {a b : Value} (h1 : OwnI b1 (.slice (some ⟨g1, 0, none⟩) n1 c1) s w) (h2 : OwnI b2 (.slice (some ⟨g2, 0, none⟩) n2 c2) l w) (hb : BoxP w O a b) (k1 : W.heap.size ≤ b1) (k2 : W.heap.size ≤ b2) (kO : W.heap.size ≤ O) (e1 : g1 ≠ O) (e2 : g2 ≠ O) (e : g1 ≠ g2) (hB : Below W.heap.size W w) :
    Cl2 W s l O (.slice (some ⟨g1, 0, none⟩) n1 c1) (.slice (some ⟨g2, 0, none⟩) n2 c2) ((w.setCell ⟨O, 0, none⟩ (.slice (some ⟨g1, 0, none⟩) n1 c1)).setCell ⟨O, 1, none⟩ (.slice (some ⟨g2, 0, none⟩) n2 c2)) where
  own := ((h1.set (fun g h _ => by simp [Value.ownBlock] at h; subst h; exact e1) _).set (fun g h _ => by simp [Value.ownBlock] at h; subst h; exact e1) _).mono k1
  own2 := ((h2.set (fun g h _ => by simp [Value.ownBlock] at h; subst h; exact e2) _).set (fun g h _ => by simp [Value.ownBlock] at h; subst h; exact e2) _).mono k2
  box := boxp_set1 (boxp_set0 hb _) _
  new := kO
  ne1 := fun g h => by simp [Value.ownBlock] at h; subst h; exact e1
  ne2 := fun g h => by simp [Value.ownBlock] at h; subst h; exact e2
  ne := fun g h h' => by simp [Value.ownBlock] at h h'; omega
  below := (hB.setCell kO _).setCell kO _
end Go.Proofs.Ytbeljjalfhogdaa
namespace Go.Proofs.Ytbeljjalfhogdaa
open Go.RowKit
set_option linter.unusedVariables false
set_option linter.unusedSimpArgs false

namespace Lasso
/-- a row of numbers, as it is handed back, in blocks from N on -/
def RowV (N : Nat) (l : List Int) (v : Value) (w : World) : Prop := ∃ a c bs, v = .slice a l.length c ∧ l.length ≤ c ∧ c ≤ maxLen ∧ (a = none → c = 0) ∧ OwnV (l.map (Value.int .i64)) a bs w ∧ ∀ b, b ∈ bs → N ≤ b
theorem RowV.frame {N : Nat} {l : List Int} {v : Value} {w w' : World} (h : RowV N l v w) (hs : w.heap.size ≤ w'.heap.size) (hb : ∀ b, N ≤ b → b < w.heap.size → w'.heap[b]? = w.heap[b]?) : RowV N l v w' := by
  obtain ⟨a, c, bs, h1, h2, h3, h4, h5, h6⟩ := h
  exact ⟨a, c, bs, h1, h2, h3, h4, h5.frame hs fun b hb' hl => hb b (h6 b hb') hl, h6⟩
theorem _root_.Go.Proofs.Ytbeljjalfhogdaa.OwnI.rowV {N : Nat} {l : List Int} {v : Value} {w : World} (h : OwnI N v l w) : RowV N l v w := by
  rcases h.row with ⟨rfl, rfl⟩ | ⟨g, c, rfl, h1, h2, h3, h4⟩
  · exact ⟨none, 0, [], rfl, Nat.le_refl _, by unfold maxLen; omega, fun _ => rfl, .inl ⟨rfl, rfl⟩, by simp⟩
  · exact ⟨_, c, [g], rfl, h2, h3, (fun e => by cases e), .inr ⟨g, rfl, rfl, by rw [List.length_map]; exact h4⟩, by simpa using h1⟩
/-- a lasso, in blocks from N on -/
def NewLas (N : Nat) (s l : List Int) (v : Value) (w : World) : Prop := ∃ vs vl, v = .agg #[vs, vl] ∧ RowV N s vs w ∧ RowV N l vl w ∧ (∀ n, n ∈ s → i64 n) ∧ ∀ n, n ∈ l → i64 n
theorem NewLas.frame {N : Nat} {s l : List Int} {v : Value} {w w' : World} (h : NewLas N s l v w) (hs : w.heap.size ≤ w'.heap.size) (hb : ∀ b, N ≤ b → b < w.heap.size → w'.heap[b]? = w.heap[b]?) : NewLas N s l v w' := by
  obtain ⟨vs, vl, h1, h2, h3, h4⟩ := h
  exact ⟨vs, vl, h1, h2.frame hs hb, h3.frame hs hb, h4⟩
theorem NewLas.below {N : Nat} {s l : List Int} {v : Value} {w w' : World} (h : NewLas N s l v w) (hb : Below w.heap.size w w') : NewLas N s l v w' := h.frame hb.size fun b _ hl => hb.block b hl
theorem NewLas.mono {N N' : Nat} {s l : List Int} {v : Value} {w : World} (h : NewLas N s l v w) (hN : N' ≤ N) : NewLas N' s l v w := by
  obtain ⟨vs, vl, h1, ⟨a, c, bs, k1, k2, k3, k4, k5, k6⟩, ⟨a', c', bs', m1, m2, m3, m4, m5, m6⟩, h4⟩ := h
  exact ⟨vs, vl, h1, ⟨a, c, bs, k1, k2, k3, k4, k5, fun b hb => Nat.le_trans hN (k6 b hb)⟩, ⟨a', c', bs', m1, m2, m3, m4, m5, fun b hb => Nat.le_trans hN (m6 b hb)⟩, h4⟩
theorem NewLas.any {N : Nat} {s l : List Int} {v : Value} {w : World} (h : NewLas N s l v w) : PairIn Any w s l v ∧ NilOk v := by
  obtain ⟨vs, vl, rfl, ⟨a, c, bs, rfl, k2, k3, k4, k5, k6⟩, ⟨a', c', bs', rfl, m2, m3, m4, m5, m6⟩, h4, h5⟩ := h
  refine ⟨⟨a, a', c, c', rfl, ⟨k5.any, h4⟩, ⟨m5.any, h5⟩, k2, k3, m2, m3⟩, fun a n c b m d e => ?_⟩
  simp at e
  obtain ⟨⟨rfl, _, rfl⟩, rfl, _, rfl⟩ := e
  exact ⟨k4, m4⟩
/-- a lasso's value, of two slices -/
theorem NewLas.shape {N : Nat} {s l : List Int} {v : Value} {w : World} (h : NewLas N s l v w) : ∃ a c a' c', v = .agg #[.slice a s.length c, .slice a' l.length c'] := by
  obtain ⟨vs, vl, rfl, ⟨a, c, bs, rfl, _⟩, ⟨a', c', bs', rfl, _⟩, _⟩ := h
  exact ⟨_, _, _, _, rfl⟩

/-- what a call of l6Word comes to -/
def WordPost (B n R p : Nat) (w : World) (e : Ending) (w' : World) : Prop :=
  ∃ v l, e = .returned v ∧ OwnI w.heap.size v l w' ∧ l.length = n ∧ (∀ m, m ∈ l → i64 m) ∧ But w R w' ∧ Rd B w' R (p + n)

set_option maxRecDepth 100000 in
set_option maxHeartbeats 2000000 in
theorem word_any (n : Nat) (w : World) (R B p : Nat) (hr : Rd B w R p) (hn : n ≤ 100) (hp : p + n ≤ 1000000) : Calls Try.prog 57 #[.pointer (some ⟨R, 0, none⟩), .int .i64 n] w (WordPost B n R p w) := by
  have hB := hr.lt
  go_enter Try.func57, Try.ntmps57
  go_wp2_with fail
  go_loopw [5, 6] (fun out i wr => ∃ (j : Nat) (v : Value) (l : List Int), j ≤ n ∧ v = out ∧ i = .int .i64 j ∧ OwnI w.heap.size v l wr ∧ l.length = j ∧ Hid (∀ m, m ∈ l → i64 m) ∧ But w R wr ∧ Rd B wr R (p + j)) (fun _ i _ => n - (intOf i).toNat)
  case atStart => exact ⟨0, _, [], Nat.zero_le _, rfl, rfl, OwnI.made w, rfl, hid (by simp), But.of (below_alloc _ _), by simpa using hr.next (below_alloc _ _)⟩
  case round =>
    obtain ⟨j, v, l, hj, rfl, rfl, hv, hl, hi, hb, hr1⟩ := hrel
    by_cases hlt : j < n
    · have hlt2 : (j : Int) < (n : Int) := by omega
      have hsz := hb.size
      go_wp2_with fail
      refine (num_at [0, 1, 2, 3, 1, 0, 5, 4, 7] 0 7 (by simp) (by decide) (by decide) B _ _ _ R (p + j) rfl hr1 (by omega)).mono ?_
      rintro e w1 ⟨x, rfl, ⟨hx1, hx2⟩, hb1, hr2⟩
      have hv1 := (hv.next (below_alloc _ _)).but hb1 (by omega)
      have B1 := (hb.next (below_alloc _ _)).trans hb1
      have hs1 := B1.size
      have hI : IntsIn Any (w1.alloc (.cells #[.int .i64 x] 3)) (some ⟨w1.heap.size, 0, none⟩) [x] := ⟨.inr ⟨w1.heap.size, 0, rfl, trivial, by simp, fun i v hi => by
        cases i with
        | zero => simp at hi; subst hi; simp
        | succ i => simp at hi⟩, fun m hm => by simp at hm; subst hm; unfold i64; omega⟩
      have HV := hid hv1
      have HI := hid hI
      have HW := hid (fun m (hm : m ∈ l ++ [x]) => (by
        rcases List.mem_append.1 hm with h | h
        · exact hi.out m h
        · simp at h; subst h; unfold i64; omega : i64 m))
      clear hv hv1 hb hb1 hr1 hI hi
      go_wp2_with (at_builtin; refine wp_app_own rfl _ _ rfl w.heap.size v l [x] (some ⟨w1.heap.size, 0, none⟩) 1 rfl rfl (fun h => by cases h) (HV.out.next (below_alloc _ _)) (by simp; omega) HI.out (by omega) (by simp) ?_; intro v' w' hv' hg)
      have HV2 := hid hv'
      have B2 := (B1.next (below_alloc _ _)).own (HV.out.next (below_alloc _ _)) (Nat.le_refl _) hg
      have R2 := (hr2.next (below_alloc _ _)).grown hg (fun k hk => Nat.le_trans hB.2 ((HV.out.next (below_alloc w1 (.cells #[.int .i64 x] 3))).blk k hk).1)
      clear hv' hg
      go_wp2_with fail
      go_roundw
      case rel => exact ⟨j + 1, v', l ++ [x], by omega, rfl, by go_num, HV2.out, by simp [hl], HW, B2, R2⟩
      case measure => simp [intOf]; omega
    · have hlt2 : ¬ ((j : Int) < (n : Int)) := by omega
      obtain rfl : j = n := by omega
      have hf := hid (show WordPost B j R p w (.returned v) wr from ⟨v, l, rfl, hv, hl, hi.out, hb, hr1⟩)
      clear hv hb hr1
      go_wp2_with fail
      go_ret
      exact hf.out

/-- what a drawn lasso comes to -/
def LasPost (B K M R p : Nat) (w : World) (e : Ending) (w' : World) : Prop :=
  ∃ v s l p', e = .returned v ∧ NewLas w.heap.size s l v w' ∧ s.length ≤ M ∧ l.length ≤ M ∧ 1 ≤ l.length ∧ But w R w' ∧ Rd B w' R p' ∧ p' ≤ p + K
end Lasso
end Go.Proofs.Ytbeljjalfhogdaa
namespace Go.Proofs.Ytbeljjalfhogdaa
open Go.RowKit
set_option linter.unusedVariables false
set_option linter.unusedSimpArgs false

namespace Lasso

/-- the variable of a lasso -/
theorem pbox_keep {w w' : World} {B : Nat} {a b : Value} (hs : w.heap.size ≤ w'.heap.size) (h : w'.heap[B]? = w.heap[B]?) (hb : PBox w B a b) : PBox w' B a b :=
  ⟨Nat.lt_of_lt_of_le hb.1 hs, by rw [World.cell?_of_block (w := w) (a := ⟨B, 0, none⟩) h]; exact hb.2.1, by rw [World.cell?_of_block (w := w) (a := ⟨B, 1, none⟩) h]; exact hb.2.2.1,
    by rw [World.frozen?_of_block (w := w) (a := ⟨B, 0, none⟩) h]; exact hb.2.2.2.1, by rw [World.frozen?_of_block (w := w) (a := ⟨B, 1, none⟩) h]; exact hb.2.2.2.2⟩

theorem last_las2 {w W : World} {s l : List Int} {R B p K p' B1 B2 M : Nat} {v1 v2 : Value} (h1 : OwnI B1 v1 s W) (h2 : OwnI B2 v2 l W) (k1 : w.heap.size < B1) (k2 : w.heap.size < B2) (i1 : ∀ n, n ∈ s → i64 n) (i2 : ∀ n, n ∈ l → i64 n) (hb : But w R W) (hr : Rd B W R p') (hB : B ≤ w.heap.size)
    (m1 : s.length ≤ M) (m2 : l.length ≤ M) (m3 : 1 ≤ l.length) (u1 u2 : Value) (hp : p' ≤ p + K) :
    LasPost B K M R p w (.returned (.agg #[v1, v2])) ((W.setCell ⟨w.heap.size, 0, none⟩ u1).setCell ⟨w.heap.size, 1, none⟩ u2) :=
  ⟨_, s, l, p', rfl, ⟨v1, v2, rfl, (((h1.set (fun g _ h => by simp; omega) _).set (fun g _ h => by simp; omega) _).mono (by omega)).rowV, (((h2.set (fun g _ h => by simp; omega) _).set (fun g _ h => by simp; omega) _).mono (by omega)).rowV, i1, i2⟩, m1, m2, m3,
    But.setNew (But.setNew hb (Nat.le_refl _) _) (Nat.le_refl _) _, (hr.set hB _).set hB _, hp⟩
theorem last_las {w W : World} {s l : List Int} {b0 R B p K p' B1 B2 M : Nat} {v1 v2 : Value} (h1 : OwnI B1 v1 s W) (h2 : OwnI B2 v2 l W) (k0 : ∀ g, v1.ownBlock = some g → g < b0) (k1 : w.heap.size < B1) (k2 : b0 < B2) (k3 : w.heap.size < b0) (i1 : ∀ n, n ∈ s → i64 n) (i2 : ∀ n, n ∈ l → i64 n) (hb : But w R W) (hr : Rd B W R p') (hB : B ≤ w.heap.size)
    (m1 : s.length ≤ M) (m2 : l.length ≤ M) (m3 : 1 ≤ l.length) (u0 u1 u2 : Value) (hp : p' ≤ p + K) :
    LasPost B K M R p w (.returned (.agg #[v1, v2])) (((W.setCell ⟨b0, 1, none⟩ u0).setCell ⟨w.heap.size, 0, none⟩ u1).setCell ⟨w.heap.size, 1, none⟩ u2) :=
  last_las2 (h1.set (fun g h _ => by have := k0 g h; simp; omega) _) (h2.set (fun g _ h => by simp; omega) _) k1 (by omega) i1 i2 (But.setNew hb (by simp; omega) _) (hr.set (by simp; omega) _) hB m1 m2 m3 u1 u2 hp

set_option maxRecDepth 100000 in
set_option maxHeartbeats 1000000 in
theorem lasso_any (w : World) (R B p : Nat) (hr : Rd B w R p) (hp : p + 12 ≤ 1000000) : Calls Try.prog 30 #[.pointer (some ⟨R, 0, none⟩)] w (LasPost B 12 8 R p w) := by
  have hB := hr.lt
  go_enter Try.func30, Try.ntmps30
  go_wp2_with fail
  refine (num_at [2, 0, 3, 1, 5] 0 5 (by simp) (by decide) (by decide) B _ _ _ R p (by simp) (hr.next (below_alloc _ _)) (by omega)).mono ?_
  rintro e w1 ⟨n, rfl, ⟨hn1, hn2⟩, hb, hr1⟩
  obtain ⟨n, rfl⟩ := Int.eq_ofNat_of_zero_le hn1
  have Z := hid (pbox_but hb (by omega) (pbox_next (below_alloc _ _) (pbox_at (w := w) (B := w.heap.size) (a := .slice none 0 0) (b := .slice none 0 0) (t := 25) rfl)))
  have B1 := ((But.of (D := R) (below_alloc w _)).next (below_alloc _ _)).trans hb
  have z1 := Z.out.1
  clear hb
  go_wp2_with fail
  refine (word_any n w1 R B _ hr1 (by omega) (by omega)).mono ?_
  rintro e w2 ⟨vs, s, rfl, hvs, hsl, hsi, hb, hr2⟩
  subst hsl
  have q12 := hb.size
  replace Z := hid (pbox_but hb (by omega) Z.out)
  replace B1 := B1.trans hb
  have OS := hid hvs
  have HSI := hid hsi
  clear hb hr1 hvs hsi
  go_wp2_with fail
  refine (num_at [2, 1, 3, 4] 1 4 (by simp) (by decide) (by decide) B _ _ _ R _ rfl hr2 (by omega)).mono ?_
  rintro e w3 ⟨m, rfl, ⟨hm1, hm2⟩, hb, hr3⟩
  have q23 := hb.size
  simp only [World.size_alloc] at q23
  obtain ⟨m, rfl⟩ := Int.eq_ofNat_of_zero_le (by omega : 0 ≤ m)
  replace Z := hid (pbox_but hb (by omega) (pbox_next (below_alloc _ _) Z.out))
  replace B1 := (B1.next (below_alloc _ _)).trans hb
  replace OS := hid ((OS.out.next (below_alloc _ _)).but hb (by omega))
  clear hb hr2
  go_wp2_with fail
  refine (word_any m w3 R B _ hr3 (by omega) (by omega)).mono ?_
  rintro e w4 ⟨vl, l, rfl, hvl, hll, hli, hb, hr4⟩
  subst hll
  have q34 := hb.size
  replace Z := hid (pbox_but hb (by omega) Z.out)
  replace B1 := B1.trans hb
  replace OS := hid (OS.out.but hb (by omega))
  have hb34 := hb.size
  have OL := hid hvl
  have HLI := hid hli
  clear hb hr3 hvl hli
  obtain ⟨a, c, rfl, c1, c2, c3⟩ := OS.out.shape
  obtain ⟨b, d, rfl, d1, d2, d3⟩ := OL.out.shape
  have sz3 := hb34
  have szz := B1.size
  go_wp2_with fail
  refine (pick_any B _ _ R _ (hr4.next (below_alloc _ _)) (by omega) (by omega) (by omega)).mono ?_
  rintro e w5 ⟨i, rfl, _, hb, hr5⟩
  have X := hid (pbox_but (B := w4.heap.size) (a := .slice a s.length c) (b := .slice b l.length d) hb (by omega) (pbox_at (w := w4) (B := w4.heap.size) (a := .slice a s.length c) (b := .slice b l.length d) (t := 25) rfl))
  have LS := hid (fun g h => (OS.out.blk g h).2)
  have LL := hid (fun g h => (OL.out.blk g h).2)
  replace Z := hid (pbox_but hb (by omega) (pbox_next (below_alloc _ _) Z.out))
  replace B1 := (B1.next (below_alloc _ _)).trans hb
  replace OS := hid ((OS.out.next (below_alloc _ _)).but hb (by omega))
  replace OL := hid ((OL.out.next (below_alloc _ _)).but hb (by omega))
  have s45 : w4.heap.size < w5.heap.size := X.out.1
  have zw4 : w.heap.size < w4.heap.size := by omega
  clear hb hr4
  by_cases hi : i = 0
  · subst hi
    obtain ⟨x0, x1, x2, x3, x4⟩ := id X.out
    go_wp2_with fail
    refine wp_region_ord (C := fun wZ => ∃ xZ, wZ = World.over _ xZ) [1,2,4,5] (.one 0 (.one 3 (.one 6 (.one 7 (.fre 8 .done))))) [8] (by kernel_rfl) (by kernel_rfl) (fun d _ _ _ _ h => by cases d <;> exact h) (bex (Below.refl _ _).drew) ?_; simp only [pick, List.getElem?_cons_succ, List.getElem?_cons_zero]; (repeat (go_big_quiet_step (fail))); refine wpQuiet_nil ?_; simp only [ordW, pick, List.getElem?_cons_succ, List.getElem?_cons_zero]
    have C0 := hid (below_d (Below.refl w5.heap.size w5))
    go_wp2_with fail
    refine ⟨bex (below_a C0.out _), ?_⟩
    go_wp2_with (at_builtin; refine wp_app_own rfl _ _ rfl w5.heap.size (.slice (some ⟨w5.heap.size, 0, none⟩) 0 0) [] l b d rfl rfl d3 (OwnI.made w5.drew) (by simp) (((OL.out.next C0.out).next (below_alloc _ _)).ints2 HLI.out) (by simp) (by omega) ?_; intro v1 w6 hv1 hg1)
    have C1 := hid (below_own (below_a C0.out _) (OwnI.made w5.drew) (by simp) hg1)
    have O1 := hid (show OwnI w5.heap.size v1 l w6 by simpa using hv1)
    clear hv1 hg1
    go_wp2_with fail
    refine ⟨bex C1.out, ?_⟩
    go_wp2_with (at_builtin; refine wp_app_own rfl _ _ rfl w5.heap.size v1 l l b d rfl rfl d3 O1.out C1.out.size ((OL.out.next C1.out).ints2 HLI.out) (by omega) (by omega) ?_; intro v2 w7 hv2 hg2)
    have C2 := hid (below_own C1.out O1.out (Nat.le_refl _) hg2)
    have O2 := hid hv2
    clear hv2 hg2
    go_wp2_with fail
    refine ⟨bex C2.out, ?_⟩
    go_wp2_with fail
    refine ⟨bex C2.out, ?_⟩
    obtain ⟨b2, d2', rfl, e1, e2, e3⟩ := O2.out.shape
    replace X := hid (pbox_next C2.out X.out)
    replace Z := hid (pbox_next C2.out Z.out)
    replace OS := hid (OS.out.next C2.out)
    have B2 := B1.next C2.out
    have R2 := hr5.next C2.out
    have s57 := C2.out.size
    clear x0 x1 x2 x3 x4 B1 hr5
    obtain ⟨x0, x1, x2, x3, x4⟩ := id X.out
    obtain ⟨y0, y1, y2, y3, y4⟩ := id Z.out
    have hf := hid (last_las (w := w) (K := 12) (M := 8) (b0 := w4.heap.size) (s := s) (l := l ++ l) (R := R) (B := B) (p := p) OS.out O2.out (fun g h => by have := LS.out g h; omega) (by omega) (by omega) zw4 HSI.out (fun n hn => HLI.out n (by simpa using hn)) B2 R2 hB.2 (by omega) (by simp; omega) (by simp; omega) (.slice b2 (l ++ l).length d2') (.slice a s.length c) (.slice b2 (l ++ l).length d2') (by omega))
    have T := hid (pbox_set1 (pbox_set0 (pbox_set Z.out (show w.heap.size ≠ w4.heap.size by omega) 1 (.slice b2 (l ++ l).length d2')) (.slice a s.length c)) (.slice b2 (l ++ l).length d2'))
    rw [List.length_append] at hf T
    clear X Z OS O2 B2 R2 LS LL HSI HLI C0 C1 C2 O1 OL
    go_wp2_with fail
    obtain ⟨_, t0, t1, _, _⟩ := T.out
    refine bodyPost_ret (v := .agg #[.slice a s.length c, .slice b2 (l.length + l.length) d2']) (by simp [results, Try.results30, go_sem, t0, t1]) rfl ?_
    exact hf.out
  · have hi2 : (i == 0) = false := by simpa using hi
    obtain ⟨x0, x1, x2, x3, x4⟩ := id X.out
    obtain ⟨y0, y1, y2, y3, y4⟩ := id Z.out
    have hf := hid (last_las2 (w := w) (K := 12) (M := 8) (s := s) (l := l) (R := R) (B := B) (p := p) OS.out OL.out (by omega) (by omega) HSI.out HLI.out B1 hr5 hB.2 (by omega) (by omega) (by omega) (.slice a s.length c) (.slice b l.length d) (by omega))
    have T := hid (pbox_set1 (pbox_set0 Z.out (.slice a s.length c)) (.slice b l.length d))
    clear X Z OS OL B1 hr5 LS LL HSI HLI
    go_wp2_with fail
    obtain ⟨_, t0, t1, _, _⟩ := T.out
    refine bodyPost_ret (v := .agg #[.slice a s.length c, .slice b l.length d]) (by simp [results, Try.results30, go_sem, t0, t1]) rfl ?_
    exact hf.out
end Lasso
end Go.Proofs.Ytbeljjalfhogdaa
namespace Go.Proofs.Ytbeljjalfhogdaa
open Go.RowKit

/-- of the world where the walk stands only this is kept -/
theorem wp_gen {P : Program} {C : Code} {Q : Exit → Act → World → Prop} {a : Act} {w0 : World} (R : World → Prop) (h0 : R w0) (h : ∀ W, R W → C.wp P Q a W) : C.wp P Q a w0 := h _ h0
/-- three cells of an old node, in a later world -/
theorem cells_next {w W : World} (B : Below w.heap.size w W) {b o : Nat} {c0 c1 c2 : Value} (hb : b < w.heap.size) (g0 : w.cell? ⟨b, o, none⟩ = some c0) (g1 : w.cell? ⟨b, o + 1, none⟩ = some c1) (g2 : w.cell? ⟨b, o + 2, none⟩ = some c2) :
    W.cell? ⟨b, o, none⟩ = some c0 ∧ W.cell? ⟨b, o + 1, none⟩ = some c1 ∧ W.cell? ⟨b, o + 2, none⟩ = some c2 :=
  ⟨(B.cell (p := ⟨b, o, none⟩) hb).trans g0, (B.cell (p := ⟨b, o + 1, none⟩) hb).trans g1, (B.cell (p := ⟨b, o + 2, none⟩) hb).trans g2⟩

end Go.Proofs.Ytbeljjalfhogdaa
