/- A row of nodes that grows by append, in memory of one's own: 'OwnRow'. Conditions: none. -/
import Derived.Test.YtfemikebklmlpaaMem
import Derived.Test.YtfemikebklmlpaaReg
import Derived.Maps.AppendAt
namespace Go.Proofs.Ytfemikebklmlpaa
open Go.RowKit

/-- all blocks from B on are kept -/
structure Keep (B : Nat) (w w' : World) : Prop where
  size : w.heap.size ≤ w'.heap.size
  block : ∀ b, B ≤ b → b < w.heap.size → w'.heap[b]? = w.heap[b]?
theorem Keep.refl (B : Nat) (w : World) : Keep B w w := ⟨Nat.le_refl _, fun _ _ _ => rfl⟩
theorem Keep.trans {B : Nat} {a b c : World} (h : Keep B a b) (k : Keep B b c) : Keep B a c :=
  ⟨Nat.le_trans h.size k.size, fun i h1 h2 => (k.block i h1 (Nat.lt_of_lt_of_le h2 h.size)).trans (h.block i h1 h2)⟩
theorem Keep.below {B : Nat} {w w' : World} (h : Below w.heap.size w w') : Keep B w w' := ⟨h.size, fun b _ hb => h.block b hb⟩
theorem Keep.but {B D : Nat} {w w' : World} (h : But w D w') (hD : D < B) : Keep B w w' := ⟨h.size, fun b h1 h2 => h.block b h2 (by omega)⟩
theorem Keep.set {B : Nat} (w : World) {a : Addr} (ha : a.block < B) (v : Value) : Keep B w (w.setCell a v) := ⟨by simp, fun b h1 _ => Below.heap_setCell _ _ _ _ (by omega)⟩
theorem Keep.alloc {B : Nat} (w : World) (o : Obj) : Keep B w (w.alloc o) := Keep.below (below_alloc w o)
theorem Keep.drewN {B : Nat} (w : World) (n : Nat) : Keep B w (w.drewN n) := ⟨Nat.le_refl _, fun _ _ _ => rfl⟩
theorem Keep.drew {B : Nat} (w : World) : Keep B w w.drew := ⟨Nat.le_refl _, fun _ _ _ => rfl⟩

theorem cell_three_new (w : World) (x y z : Value) (t : TypeId) : ∀ j u, [x, y, z][j]? = some u → (w.alloc (.cells #[x, y, z] t)).cell? ((⟨w.heap.size, 0, none⟩ : Addr).add j) = some u := by
  intro j u hj
  match j, hj with
  | 0, hj => simp at hj; subst hj; simp [Addr.add]
  | 1, hj => simp at hj; subst hj; simp [Addr.add]
  | 2, hj => simp at hj; subst hj; simp [Addr.add]

theorem box3_set2 {w : World} {B : Nat} {a b c : Value} (h : Box3 w B a b c) (v : Value) : Box3 (w.setCell ⟨B, 2, none⟩ v) B a b v :=
  ⟨by simpa using h.1, by rw [World.cell?_setCell_other _ _ _ _ (by simp)]; exact h.2.1, by rw [World.cell?_setCell_other _ _ _ _ (by simp)]; exact h.2.2.1, World.cell?_setCell_same _ _ _ h.2.2.2.1,
    by simpa using h.2.2.2.2.1, by simpa using h.2.2.2.2.2.1, by simpa using h.2.2.2.2.2.2⟩
theorem box3_set0 {w : World} {B : Nat} {a b c : Value} (h : Box3 w B a b c) (v : Value) : Box3 (w.setCell ⟨B, 0, none⟩ v) B v b c :=
  ⟨by simpa using h.1, World.cell?_setCell_same _ _ _ h.2.1, by rw [World.cell?_setCell_other _ _ _ _ (by simp)]; exact h.2.2.1, by rw [World.cell?_setCell_other _ _ _ _ (by simp)]; exact h.2.2.2.1,
    by simpa using h.2.2.2.2.1, by simpa using h.2.2.2.2.2.1, by simpa using h.2.2.2.2.2.2⟩
theorem box3_set1 {w : World} {B : Nat} {a b c : Value} (h : Box3 w B a b c) (v : Value) : Box3 (w.setCell ⟨B, 1, none⟩ v) B a v c :=
  ⟨by simpa using h.1, by rw [World.cell?_setCell_other _ _ _ _ (by simp)]; exact h.2.1, World.cell?_setCell_same _ _ _ h.2.2.1, by rw [World.cell?_setCell_other _ _ _ _ (by simp)]; exact h.2.2.2.1,
    by simpa using h.2.2.2.2.1, by simpa using h.2.2.2.2.2.1, by simpa using h.2.2.2.2.2.2⟩

theorem Keep.setHi {B : Nat} {w w' : World} (h : Keep B w w') {a : Addr} (ha : w.heap.size ≤ a.block) (v : Value) : Keep B w (w'.setCell a v) :=
  ⟨by simpa using h.size, fun b h1 h2 => by rw [Below.heap_setCell _ _ _ _ (by omega)]; exact h.block b h1 h2⟩
theorem But.setNew {w W : World} {R : Nat} (h : But w R W) {a : Addr} (ha : w.heap.size ≤ a.block) (v : Value) : But w R (W.setCell a v) :=
  ⟨h.os, h.tape, h.output, by simpa using h.size, fun k hk hd => by rw [Below.heap_setCell _ _ _ _ (by omega)]; exact h.block k hk hd⟩

/-- v is a row of one's own, of nodes l, each in blocks of its own; all from B on -/
def OwnRow (B : Nat) (e : TypeId) (v : Value) (l : List Tr) (w : World) : Prop :=
  ∃ xs bs, w.ownsRow B e 3 v l.length xs ∧ TrsOwn w (fun i => xs.getD i undef) l 0 bs ∧ ∀ b, b ∈ bs → B ≤ b ∧ some b ≠ v.ownBlock

theorem OwnRow.nil (B : Nat) (e : TypeId) (w : World) : OwnRow B e (.slice none 0 0) [] w := ⟨[], [], World.ownsRow_nil .., (TrsOwn_nil ..).2 rfl, by simp⟩

theorem ownsRow_keep {B : Nat} {e : TypeId} {sz : Nat} {v : Value} {n : Nat} {xs : List Value} {w w' : World} (h1 : w.ownsRow B e sz v n xs) (hk : Keep B w w') : w'.ownsRow B e sz v n xs := by
  refine ⟨h1.1, ?_⟩
  rcases h1.2 with hn | ⟨g, cap, cur, rfl, hb, hgg, rest⟩
  · exact .inl hn
  · refine .inr ⟨g, cap, cur, rfl, hb, ?_, rest⟩
    rw [hk.block g hb (Array.getElem?_eq_some_iff.1 hgg).1]
    exact hgg

theorem OwnRow.keep {B : Nat} {e : TypeId} {v : Value} {l : List Tr} {w w' : World} (h : OwnRow B e v l w) (hk : Keep B w w') : OwnRow B e v l w' := by
  obtain ⟨xs, bs, h1, h2, h3⟩ := h
  refine ⟨xs, bs, ⟨h1.1, ?_⟩, (TrOwn_frame hk.size).2 _ _ _ _ h2 fun b hb => hk.block b (h3 b hb).1 (TrOwn_lt.2 _ _ _ _ h2 b hb), h3⟩
  rcases h1.2 with hn | ⟨g, cap, cur, rfl, hb, hgg, rest⟩
  · exact .inl hn
  · refine .inr ⟨g, cap, cur, rfl, hb, ?_, rest⟩
    rw [hk.block g hb (Array.getElem?_eq_some_iff.1 hgg).1]
    exact hgg

theorem box3_at {w : World} {B : Nat} {a b c : Value} {t : TypeId} (h : B = w.heap.size) : Box3 (w.alloc (.cells #[a, b, c] t)) B a b c := by subst h; exact box3_new ..
theorem box1_at {w : World} {B : Nat} {a : Value} {t : TypeId} (h : B = w.heap.size) : Box1 (w.alloc (.cells #[a] t)) B a := by subst h; exact box1_new ..

/-- the row's shape -/
theorem OwnRow.shape {B : Nat} {e : TypeId} {v : Value} {l : List Tr} {w : World} (h : OwnRow B e v l w) : ∃ a c, v = .slice a l.length c ∧ l.length ≤ c ∧ c ≤ maxLen := by
  obtain ⟨xs, bs, h1, h2, h3⟩ := h
  rcases h1.2 with ⟨rfl, h⟩ | ⟨g, cap, cur, rfl, hb, hgg, h4, h5, _⟩
  · exact ⟨none, 0, by rw [h], by omega, by simp⟩
  · exact ⟨_, _, rfl, h4, h5⟩

/-- **append(row, node)**: the node made meanwhile, in new blocks -/
theorem OwnRow.snocX {B Nn : Nat} {e : TypeId} {v v' : Value} {l : List Tr} {t : Tr} {w w1 w2 w' : World} {x y z : Value} {xs bs}
    (h1 : w.ownsRow B e 3 v l.length xs) (h2 : TrsOwn w (fun i => xs.getD i undef) l 0 bs) (h3 : ∀ b, b ∈ bs → B ≤ b ∧ some b ≠ v.ownBlock) (hB : B ≤ w.heap.size) (hk : Keep B w w1) (hN : w.heap.size ≤ Nn) (hn : NewTr Nn t (.agg #[x, y, z]) w1) (hk2 : Below w1.heap.size w1 w2)
    (h' : w'.ownsRow B e 3 v' (l.length + 1) (xs ++ [x, y, z])) (hg : w2.grownBy w' v.ownBlock) (hat : v'.ownBlock = v.ownBlock ∨ v'.ownBlock = some w2.heap.size) : ∃ xs' bs', w'.ownsRow B e 3 v' (l ++ [t]).length xs' ∧ TrsOwn w' (fun i => xs'.getD i undef) (l ++ [t]) 0 bs' ∧ (∀ b, b ∈ bs' → B ≤ b ∧ some b ≠ v'.ownBlock) ∧ (∀ b, b ∈ bs' → b < w.heap.size ∨ Nn ≤ b) ∧ (∀ k, v'.ownBlock = some k → k < w.heap.size ∨ k = w2.heap.size) := by
  obtain ⟨cs, hcs, hnew⟩ := hn
  have hv : ∀ k, v.ownBlock = some k → k < w.heap.size := fun k hk => (h1.lt k hk).2
  have hxl := h1.1
  have lb := TrOwn_lt.2 _ _ _ _ h2
  have lc := TrOwn_lt.1 _ _ _ hcs
  have s1 := hk.size
  have s2 := hk2.size
  have nc : ∀ b, b ∈ cs → some b ≠ v.ownBlock := fun b hb e => by
    have := hv b e.symm; have := hnew b hb; omega
  refine ⟨xs ++ [x, y, z], bs ++ cs, by simpa using h', TrsOwn_snoc ?_ ?_ ?_, ?_, fun b hb => ?_, fun k hk => ?_⟩
  · refine (TrOwn_frame (w := w) (by have := hg.size; omega)).2 _ _ _ _ (TrsOwn_congr h2 fun i _ hi => ?_) fun b hb => ?_
    · simp only [List.getD_eq_getElem?_getD]
      rw [List.getElem?_append_left (by omega)]
    · rw [hg.block b (by have := lb b hb; omega) (h3 b hb).2, hk2.block b (by have := lb b hb; omega), hk.block b (h3 b hb).1 (lb b hb)]
  · have e0 : (xs ++ [x, y, z]).getD (0 + l.length * 3) undef = x := by
      simp only [List.getD_eq_getElem?_getD]; rw [List.getElem?_append_right (by omega), show 0 + l.length * 3 - xs.length = 0 by omega]; rfl
    have e1 : (xs ++ [x, y, z]).getD (0 + l.length * 3 + 1) undef = y := by
      simp only [List.getD_eq_getElem?_getD]; rw [List.getElem?_append_right (by omega), show 0 + l.length * 3 + 1 - xs.length = 1 by omega]; rfl
    have e2 : (xs ++ [x, y, z]).getD (0 + l.length * 3 + 2) undef = z := by
      simp only [List.getD_eq_getElem?_getD]; rw [List.getElem?_append_right (by omega), show 0 + l.length * 3 + 2 - xs.length = 2 by omega]; rfl
    rw [e0, e1, e2]
    refine (TrOwn_frame (w := w1) (by have := hg.size; omega)).1 _ _ _ hcs fun b hb => ?_
    rw [hg.block b (by have := lc b hb; omega) (nc b hb), hk2.block b (lc b hb)]
  · intro b hb hc
    have := lb b hb; have := hnew b hc; omega
  · intro b hb
    have hne : ∀ k, k < w2.heap.size → some k ≠ v.ownBlock → some k ≠ v'.ownBlock := fun k hk hne e => by
      rcases hat with h | h
      · exact hne (e.trans h)
      · rw [h] at e; cases e; omega
    rcases List.mem_append.1 hb with hb | hb
    · exact ⟨(h3 b hb).1, hne b (by have := lb b hb; omega) (h3 b hb).2⟩
    · exact ⟨by have := hnew b hb; omega, hne b (by have := lc b hb; omega) (nc b hb)⟩
  · rcases List.mem_append.1 hb with hb | hb
    · exact .inl (lb b hb)
    · exact .inr (hnew b hb)
  · rcases hat with h | h
    · exact .inl (hv k (h ▸ hk))
    · rw [h] at hk; cases hk; exact .inr rfl
theorem OwnRow.avoid {B O o : Nat} {e : TypeId} {v u : Value} {l : List Tr} {w : World} {xs bs} (h1 : w.ownsRow B e 3 v l.length xs) (h2 : TrsOwn w (fun i => xs.getD i undef) l 0 bs) (h3 : ∀ b, b ∈ bs → B ≤ b ∧ some b ≠ v.ownBlock) (h4 : O ∉ bs) (h5 : v.ownBlock ≠ some O) :
    OwnRow B e v l (w.setCell ⟨O, o, none⟩ u) :=
  ⟨xs, bs, h1.kept (row := some O) ⟨rfl, rfl, rfl, by simp, fun k _ hne => Below.heap_setCell _ _ _ _ (fun e => hne (by rw [e]))⟩ (.inr h5), TrsOwn_set h2 h4 _, h3⟩

/-- the node above the row -/
theorem OwnRow.node {B : Nat} {e : TypeId} {u : Value} {k v : Int} {l : List Tr} {w : World} (h : OwnRow B e u l w) (hk : i64 k) (hv : i64 v) : NewTr B (.mk k v l) (.agg #[.int .i64 k, .int .i64 v, u]) w := by
  obtain ⟨xs, bs, h1, h2, h3⟩ := h
  rcases h1.2 with ⟨rfl, h⟩ | ⟨g, cap, cur, rfl, hb, hgg, h4, h5, h6, h7⟩
  · have : l = [] := List.eq_nil_of_length_eq_zero h
    subst this
    exact ⟨[], TrOwn_leaf hk hv (by simp), by simp⟩
  · have hc := h1.cells (g := g) rfl
    obtain ⟨bs', g1, g2⟩ := TrOwn_new (w := w) (R := g) (c := cap) hk hv h4 h5 (f := fun i => xs.getD i undef) (bs := bs)
      ⟨(Array.getElem?_eq_some_iff.1 hgg).1, fun i hi => by
        have hx : xs[i]? = some (xs.getD i undef) := by
          simp only [List.getD_eq_getElem?_getD]
          rw [List.getElem?_eq_getElem (by rw [h1.1]; exact hi)]; rfl
        have := hc i _ hx
        rw [show (⟨g, 0, none⟩ : Addr).add i = ⟨g, i, none⟩ by cases i <;> simp [Addr.add]] at this
        exact this, fun i => by
        simp [World.frozen?, hgg]⟩ h2 (fun e => by have := (h3 g e).2; simp [Value.ownBlock] at this)
    exact ⟨bs', g1, fun b hb' => by rcases g2 b hb' with rfl | h8; exact hb; exact (h3 b h8).1⟩

theorem OwnRow.mono {B B' : Nat} {e : TypeId} {v : Value} {l : List Tr} {w : World} (h : OwnRow B e v l w) (hB : B' ≤ B) : OwnRow B' e v l w := by
  obtain ⟨xs, bs, h1, h2, h3⟩ := h
  refine ⟨xs, bs, ⟨h1.1, ?_⟩, h2, fun b hb => ⟨Nat.le_trans hB (h3 b hb).1, (h3 b hb).2⟩⟩
  rcases h1.2 with hn | ⟨g, cap, cur, rfl, hb, rest⟩
  · exact .inl hn
  · exact .inr ⟨g, cap, cur, rfl, Nat.le_trans hB hb, rest⟩

/-- a node of one's own whose row may grow -/
def OwnN (B : Nat) (e : TypeId) (t : Tr) (x : Value) (w : World) : Prop := ∃ u, x = .agg #[.int .i64 t.kind, .int .i64 t.val, u] ∧ i64 t.kind ∧ i64 t.val ∧ OwnRow B e u t.kids w
theorem OwnN.new {B : Nat} {e : TypeId} {t : Tr} {x : Value} {w : World} (h : OwnN B e t x w) : NewTr B t x w := by
  obtain ⟨u, rfl, h1, h2, h3⟩ := h
  cases t with
  | mk k v l => exact h3.node h1 h2

theorem ButX.ofB {B R : Nat} {w w' : World} (h : Below B w w') : ButX B R w w' := ⟨h.os, h.tape, h.output, h.size, fun k hk _ => h.block k hk⟩

/-- **append(row, node)**, at the operation: the node made meanwhile, in new blocks, and laid in a block of its own -/
theorem wp_append_node {P : Program} {ops : Array Oper} {rest : List Oper} {o : Oper} {a : Act} {Q : Exit → Act → World → Prop} {wr w1 : World} {B Nn : Nat} {l : List Tr} {t' : Tr} {u x y z : Value} {ty : TypeId} (hgd : o.guard = none) (s xx : Operand) (t : TypeId)
    (ho : o.op = .call { callee := .builtin .append, args := #[s, xx], argTypes := #[t, t] }) (e : TypeId) (ht : P.underlying t = some (.slice e))
    (hinf : (P.info? e).map (fun i => (i.zero, i.size, i.bytes)) = some (some (.agg #[.int .i64 0, .int .i64 0, .slice none 0 0]), 3, 40))
    (hs : a.eval s = u) (hx : a.eval xx = .slice (some ⟨w1.heap.size, 0, none⟩) 1 1) (h1 : ∀ v ∈ [x, y, z], v.oneCell' = true)
    (hown : OwnRow B e u l wr) (hB : B ≤ wr.heap.size) (hk : Keep B wr w1) (hN : wr.heap.size ≤ Nn) (hn : NewTr Nn t' (.agg #[x, y, z]) w1) (hl : l.length ≤ 1048576)
    (h : ∀ a2 n2 c2 w', OwnRow B e (.slice a2 n2 c2) (l ++ [t']) w' → Below B w1 w' → (∀ D, (∀ k, u.ownBlock = some k → k = D) → But w1 D w') → (∀ O o v, wr.heap.size ≤ O → O < Nn → O < w1.heap.size → OwnRow B e (.slice a2 n2 c2) (l ++ [t']) (w'.setCell ⟨O, o, none⟩ v)) → wpList P ops Q rest (a.put o.dst (.slice a2 n2 c2)) w') : wpList P ops Q (o :: rest) a (w1.alloc (.cells #[x, y, z] ty)) := by
  obtain ⟨xs, bs, o1, o2, o3⟩ := hown
  obtain ⟨ri, hi, hz, hs1, hs2⟩ := info_parts hinf
  have s1 := hk.size
  refine wpList_append_own_at _ hgd s xx t ho B e ri _ 3 40 ht hi hz hs1 hs2 rfl (by omega) u l.length xs hs ((ownsRow_keep o1 hk).alloc _) ⟨w1.heap.size, 0, none⟩ 1 1 [x, y, z] hx rfl (cell_three_new _ _ _ _ _) h1
    (by simp only [maxLen]; omega) (by omega) (by simp; omega) ?_
  intro v2 w3 hown hgrow _ hat
  obtain ⟨xs', bs', z1, z2, z3, z4, z5⟩ := OwnRow.snocX o1 o2 o3 hB hk hN hn (below_alloc _ _) hown hgrow (by simpa using hat)
  have hsn : OwnRow B e v2 (l ++ [t']) w3 := ⟨xs', bs', z1, z2, z3⟩
  obtain ⟨a2, c2, rfl, _⟩ := hsn.shape
  refine h _ _ _ _ hsn ⟨hgrow.os, hgrow.tape, hgrow.output, by have := hgrow.size; simp at this; omega, fun k hk' => ?_⟩ (fun D hD => ⟨hgrow.os, hgrow.tape, hgrow.output, by have := hgrow.size; simp at this; omega, fun k hk' hkD => ?_⟩) (fun O o v h1 h2 h3 => OwnRow.avoid z1 z2 z3 (fun hb => by rcases z4 O hb with h | h <;> omega) (fun hb => by rcases z5 O hb with h | h; omega; simp at h; omega))
  · rw [hgrow.block k (by simp; omega) (fun e => by have := (o1.lt k e.symm).1; omega), (below_alloc w1 _).block k (by omega)]
  · rw [hgrow.block k (by simp; omega) (fun e => hkD (hD k e.symm)), (below_alloc w1 _).block k hk']

theorem leaf_new (B : Nat) (w : World) {k v : Int} (hk : i64 k) (hv : i64 v) : NewTr B (.mk k v []) (.agg #[.int .i64 k, .int .i64 v, .slice none 0 0]) w := ⟨[], TrOwn_leaf hk hv (by simp), by simp⟩
/-- a node above one leaf, just made -/
theorem new_one (w : World) {k v k' v' : Int} (hk : i64 k) (hv : i64 v) (hk' : i64 k') (hv' : i64 v') (e : TypeId) (b : Nat) (hb : b = w.heap.size) :
    NewTr w.heap.size (.mk k v [.mk k' v' []]) (.agg #[.int .i64 k, .int .i64 v, .slice (some ⟨b, 0, none⟩) 1 1]) (w.alloc (.cells #[.int .i64 k', .int .i64 v', .slice none 0 0] e)) := by
  subst hb
  obtain ⟨bs, h1, h2⟩ := TrOwn_new (w := w.alloc (.cells #[.int .i64 k', .int .i64 v', .slice none 0 0] e)) (R := w.heap.size) (c := 1) (kids := [.mk k' v' []]) (bs := []) (f := fun i => #[Value.int .i64 k', .int .i64 v', .slice none 0 0].getD i undef) hk hv (by simp) (by simp [maxLen])
    ⟨by simp, fun i hi => by
      rw [World.cell?_alloc_new]
      rcases (by simp at hi; omega : i = 0 ∨ i = 1 ∨ i = 2) with rfl | rfl | rfl <;> rfl, fun i => by simp⟩
    ((TrsOwn_cons ..).2 ⟨[], [], rfl, by simp, TrOwn_leaf hk' hv' (by simp), (TrsOwn_nil ..).2 rfl⟩) (by simp)
  exact ⟨bs, h1, fun b hb => by rcases h2 b hb with rfl | h; exact Nat.le_refl _; cases h⟩
theorem NewTr.keep {B : Nat} {t : Tr} {v : Value} {w w' : World} (h : NewTr B t v w) (hk : Keep B w w') : NewTr B t v w' := by
  obtain ⟨bs, h1, h2⟩ := h
  exact ⟨bs, (TrOwn_frame hk.size).1 _ _ _ h1 fun b hb => hk.block b (h2 b hb) (TrOwn_lt.1 _ _ _ h1 b hb), h2⟩

end Go.Proofs.Ytfemikebklmlpaa
